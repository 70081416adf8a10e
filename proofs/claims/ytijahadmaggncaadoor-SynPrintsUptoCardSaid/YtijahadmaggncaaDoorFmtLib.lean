/- strconv.FormatInt and strings.Fields at this dump, by the shelf's contracts. -/
import Derived.Shelf.Strconv.Itoa4
import Derived.Shelf.Strings.SplitShaped
import Derived.Test.YtijahadmaggncaaDoorItoaLib
import Derived.Test.YtijahadmaggncaaDoorBlk
namespace Go.Proofs.YtijahadmaggncaaDoor
open Go.Shelf Go.RowKit
set_option linter.unusedVariables false
def laysFJ_ren : Go.Shelf.Ren := ⟨fun | 173 => 84 | 246 => 119 | 283 => 149 | 284 => 150 | 285 => 151 | 286 => 152 | 129 => 103 | 317 => 168 | 318 => 169 | 319 => 170 | 320 => 171 | 337 => 177 | 338 => 57 | n => n, fun | 2 => 2 | 3 => 3 | 9 => 9 | 4 => 4 | 171 => 186 | 0 => 0 | 53 => 114 | 37 => 43 | 5 => 5 | 173 => 188 | 212 => 210 | 51 => 154 | 20 => 20 | 213 => 211 | 46 => 121 | 232 => 232 | 233 => 141 | n => n, fun | 17 => 5 | 18 => 7 | 19 => 0 | n => n⟩
theorem laysFJ : Go.Proofs.LaysM.n173 Tryd.prog laysFJ_ren where
  mixed := by kernel_rfl
  f129 := Tryd.func103.trans (congrArg some (by kernel_rfl))
  f173 := Tryd.func84.trans (congrArg some (by kernel_rfl))
  f246 := Tryd.func119.trans (congrArg some (by kernel_rfl))
  f283 := Tryd.func149.trans (congrArg some (by kernel_rfl))
  f284 := Tryd.func150.trans (congrArg some (by kernel_rfl))
  f285 := Tryd.func151.trans (congrArg some (by kernel_rfl))
  f286 := Tryd.func152.trans (congrArg some (by kernel_rfl))
  f317 := Tryd.func168.trans (congrArg some (by kernel_rfl))
  f318 := Tryd.func169.trans (congrArg some (by kernel_rfl))
  f319 := Tryd.func170.trans (congrArg some (by kernel_rfl))
  f320 := Tryd.func171.trans (congrArg some (by kernel_rfl))
  f337 := Tryd.func177.trans (congrArg some (by kernel_rfl))
  f338 := Tryd.func57.trans (congrArg some (by kernel_rfl))
  t0 := Tryd.underlying0
  a0 := Tryd.isAgg0
  z0 := Tryd.sizeOf0
  v0 := Tryd.zeroValue0
  t2 := Tryd.underlying2
  a2 := Tryd.isAgg2
  z2 := Tryd.sizeOf2
  v2 := Tryd.zeroValue2
  t3 := Tryd.underlying3
  a3 := Tryd.isAgg3
  z3 := Tryd.sizeOf3
  v3 := Tryd.zeroValue3
  t4 := Tryd.underlying4
  a4 := Tryd.isAgg4
  z4 := Tryd.sizeOf4
  v4 := Tryd.zeroValue4
  t5 := Tryd.underlying5
  a5 := Tryd.isAgg5
  z5 := Tryd.sizeOf5
  v5 := Tryd.zeroValue5
  t9 := Tryd.underlying9
  a9 := Tryd.isAgg9
  z9 := Tryd.sizeOf9
  v9 := Tryd.zeroValue9
  t20 := Tryd.underlying20
  a20 := Tryd.isAgg20
  z20 := Tryd.sizeOf20
  v20 := Tryd.zeroValue20
  t37 := Tryd.underlying43
  a37 := Tryd.isAgg43
  z37 := Tryd.sizeOf43
  v37 := Tryd.zeroValue43
  t46 := Tryd.underlying121
  a46 := Tryd.isAgg121
  z46 := Tryd.sizeOf121
  v46 := Tryd.zeroValue121
  t51 := Tryd.underlying154
  a51 := Tryd.isAgg154
  z51 := Tryd.sizeOf154
  v51 := Tryd.zeroValue154
  t53 := Tryd.underlying114
  a53 := Tryd.isAgg114
  z53 := Tryd.sizeOf114
  v53 := Tryd.zeroValue114
  t171 := Tryd.underlying186
  a171 := Tryd.isAgg186
  z171 := Tryd.sizeOf186
  v171 := Tryd.zeroValue186
  t173 := Tryd.underlying188
  a173 := Tryd.isAgg188
  z173 := Tryd.sizeOf188
  v173 := Tryd.zeroValue188
  t212 := Tryd.underlying210
  a212 := Tryd.isAgg210
  z212 := Tryd.sizeOf210
  v212 := Tryd.zeroValue210
  t213 := Tryd.underlying211
  a213 := Tryd.isAgg211
  z213 := Tryd.sizeOf211
  t232 := Tryd.underlying232
  a232 := Tryd.isAgg232
  z232 := Tryd.sizeOf232
  v232 := Tryd.zeroValue232
  t233 := Tryd.underlying141
  a233 := Tryd.isAgg141
  z233 := Tryd.sizeOf141
  v233 := Tryd.zeroValue141
  g17 := by kernel_rfl
  g18 := by kernel_rfl
  g19 := by kernel_rfl
  i0 := by kernel_rfl
  i2 := by kernel_rfl
  i3 := by kernel_rfl
  i4 := by kernel_rfl
  i5 := by kernel_rfl
  i9 := by kernel_rfl
  i20 := by kernel_rfl
  i37 := by kernel_rfl
  i46 := by kernel_rfl
  i51 := by kernel_rfl
  i53 := by kernel_rfl
  i171 := by kernel_rfl
  i173 := by kernel_rfl
  i212 := by kernel_rfl
  i232 := by kernel_rfl
  i233 := by kernel_rfl
  m17 := by kernel_rfl
  m18 := by kernel_rfl
  m19 := by kernel_rfl
def laysFs_ren : Go.Shelf.Ren := ⟨fun | 157 => 141 | 229 => 161 | 199 => 162 | 261 => 175 | 311 => 178 | 312 => 179 | n => n, fun | 9 => 9 | 31 => 50 | 3 => 3 | 5 => 5 | 4 => 4 | 119 => 200 | 0 => 0 | 40 => 202 | 152 => 213 | 21 => 21 | 154 => 215 | 51 => 154 | 141 => 217 | 196 => 224 | 193 => 221 | 198 => 227 | 49 => 225 | 194 => 222 | 201 => 230 | 226 => 233 | 46 => 121 | 227 => 234 | n => n, fun | 0 => 1 | 6 => 6 | n => n⟩
theorem laysFs : Go.Proofs.LaysM.n157 Tryd.prog laysFs_ren where
  mixed := by kernel_rfl
  f157 := Tryd.func141.trans (congrArg some (by kernel_rfl))
  f199 := Tryd.func162.trans (congrArg some (by kernel_rfl))
  f229 := Tryd.func161.trans (congrArg some (by kernel_rfl))
  f261 := Tryd.func175.trans (congrArg some (by kernel_rfl))
  f311 := Tryd.func178.trans (congrArg some (by kernel_rfl))
  f312 := Tryd.func179.trans (congrArg some (by kernel_rfl))
  t0 := Tryd.underlying0
  a0 := Tryd.isAgg0
  z0 := Tryd.sizeOf0
  v0 := Tryd.zeroValue0
  t3 := Tryd.underlying3
  a3 := Tryd.isAgg3
  z3 := Tryd.sizeOf3
  v3 := Tryd.zeroValue3
  t4 := Tryd.underlying4
  a4 := Tryd.isAgg4
  z4 := Tryd.sizeOf4
  v4 := Tryd.zeroValue4
  t5 := Tryd.underlying5
  a5 := Tryd.isAgg5
  z5 := Tryd.sizeOf5
  v5 := Tryd.zeroValue5
  t9 := Tryd.underlying9
  a9 := Tryd.isAgg9
  z9 := Tryd.sizeOf9
  v9 := Tryd.zeroValue9
  t21 := Tryd.underlying21
  a21 := Tryd.isAgg21
  z21 := Tryd.sizeOf21
  v21 := Tryd.zeroValue21
  t31 := Tryd.underlying50
  a31 := Tryd.isAgg50
  z31 := Tryd.sizeOf50
  v31 := Tryd.zeroValue50
  t40 := Tryd.underlying202
  a40 := Tryd.isAgg202
  z40 := Tryd.sizeOf202
  v40 := Tryd.zeroValue202
  t46 := Tryd.underlying121
  a46 := Tryd.isAgg121
  z46 := Tryd.sizeOf121
  v46 := Tryd.zeroValue121
  t49 := Tryd.underlying225
  a49 := Tryd.isAgg225
  z49 := Tryd.sizeOf225
  v49 := Tryd.zeroValue225
  t51 := Tryd.underlying154
  a51 := Tryd.isAgg154
  z51 := Tryd.sizeOf154
  v51 := Tryd.zeroValue154
  t119 := Tryd.underlying200
  a119 := Tryd.isAgg200
  z119 := Tryd.sizeOf200
  t141 := Tryd.underlying217
  a141 := Tryd.isAgg217
  z141 := Tryd.sizeOf217
  v141 := Tryd.zeroValue217
  t152 := Tryd.underlying213
  a152 := Tryd.isAgg213
  z152 := Tryd.sizeOf213
  v152 := Tryd.zeroValue213
  t154 := Tryd.underlying215
  a154 := Tryd.isAgg215
  z154 := Tryd.sizeOf215
  v154 := Tryd.zeroValue215
  t193 := Tryd.underlying221
  a193 := Tryd.isAgg221
  z193 := Tryd.sizeOf221
  v193 := Tryd.zeroValue221
  t194 := Tryd.underlying222
  a194 := Tryd.isAgg222
  z194 := Tryd.sizeOf222
  v194 := Tryd.zeroValue222
  t196 := Tryd.underlying224
  a196 := Tryd.isAgg224
  z196 := Tryd.sizeOf224
  v196 := Tryd.zeroValue224
  t198 := Tryd.underlying227
  a198 := Tryd.isAgg227
  z198 := Tryd.sizeOf227
  v198 := Tryd.zeroValue227
  t201 := Tryd.underlying230
  a201 := Tryd.isAgg230
  z201 := Tryd.sizeOf230
  v201 := Tryd.zeroValue230
  t226 := Tryd.underlying233
  a226 := Tryd.isAgg233
  z226 := Tryd.sizeOf233
  v226 := Tryd.zeroValue233
  t227 := Tryd.underlying234
  a227 := Tryd.isAgg234
  z227 := Tryd.sizeOf234
  v227 := Tryd.zeroValue234
  g0 := by kernel_rfl
  g6 := by kernel_rfl
  i0 := by kernel_rfl
  i3 := by kernel_rfl
  i4 := by kernel_rfl
  i5 := by kernel_rfl
  i9 := by kernel_rfl
  i21 := by kernel_rfl
  i31 := by kernel_rfl
  i40 := by kernel_rfl
  i46 := by kernel_rfl
  i49 := by kernel_rfl
  i51 := by kernel_rfl
  i141 := by kernel_rfl
  i152 := by kernel_rfl
  i154 := by kernel_rfl
  i193 := by kernel_rfl
  i194 := by kernel_rfl
  i196 := by kernel_rfl
  i198 := by kernel_rfl
  i201 := by kernel_rfl
  i226 := by kernel_rfl
  i227 := by kernel_rfl
  m0 := by kernel_rfl
  m6 := by kernel_rfl
theorem gAsc : Tryd.prog.globalNamed "strings.asciiSpace" = some 1 := by kernel_rfl
/-- the library's tables lie: of powers, of blanks -/
structure FmtT (w : World) : Prop where
  pow : PowT w
  tab : Lib.TabIs Tryd.prog w "strings.asciiSpace" .u8 Lib.asciiSpaceTab
  lt : 1 < w.heap.size
theorem FmtT.below {w w' : World} {B : Nat} (h : FmtT w) (hb : Below B w w') (h1 : 5 < B) (h2 : 1 < B) : FmtT w' :=
  ⟨h.pow.below hb h1, var?_below hb gAsc h2 h.tab, Nat.lt_of_lt_of_le h.lt hb.size⟩
theorem FmtT.go {w w' : World} (h : FmtT w) (hb : Below w.heap.size w w') : FmtT w' := h.below hb h.pow.lt h.lt
theorem fj_n (n : Int) (h0 : -9223372036854775808 ≤ n) (h1 : n ≤ 9223372036854775807) (w : World) (hN : PowT w) :
    Calls Tryd.prog 84 #[.int .i64 n, .int .i64 10] w fun e w' => e = .returned (.string ⟨(Lib.itoa n).toArray⟩) ∧ Below w.heap.size w w' := by
  refine (Any.strconv_FormatInt_10 laysFJ n h0 h1 w hN.tab).mono ?_
  rintro e w' ⟨he, k, os, rfl⟩
  refine ⟨he, ?_⟩
  exact ⟨rfl, rfl, rfl, by simp [Sort.grow], fun i hi => by
    show ((w.drewN k).heap ++ os)[i]? = _
    rw [Array.getElem?_append_left (by show i < w.heap.size; omega)]
    rfl⟩
def signsText : ByteArray := ⟨#[43, 32, 45, 32, 42, 32, 47, 32, 37, 32, 60, 32, 61, 61]⟩
theorem signs_f : Lib.fields signsText.data.toList = [[43], [45], [42], [47], [37], [60], [61, 61]] := by decide +kernel
theorem signs_fields : (Lib.fields signsText.data.toList).map (fun l => Value.string ⟨l.toArray⟩) = [.string ⟨#[43]⟩, .string ⟨#[45]⟩, .string ⟨#[42]⟩, .string ⟨#[47]⟩, .string ⟨#[37]⟩, .string ⟨#[60]⟩, .string ⟨#[61, 61]⟩] := by rw [signs_f]; rfl
theorem signs_len : (Lib.fields signsText.data.toList).length = 7 := by rw [signs_f]; rfl
theorem signs_ascii : ∀ (j : Nat) b, signsText.data.toList[j]? = some b → b.toNat < 128 := fun j b h => by
  have key : ∀ b ∈ signsText.data.toList, b.toNat < 128 := by decide
  exact key b (List.mem_of_getElem? h)
theorem fields_n (w : World) (hN : FmtT w) :
    Calls Tryd.prog 141 #[.string signsText] w fun e w' => e = .returned (.slice (some ⟨w.heap.size, 0, none⟩) 7 7) ∧ w' = w.alloc (.cells #[.string ⟨#[43]⟩, .string ⟨#[45]⟩, .string ⟨#[42]⟩, .string ⟨#[47]⟩, .string ⟨#[37]⟩, .string ⟨#[60]⟩, .string ⟨#[61, 61]⟩] 9) := by
  refine (Any.strings_Fields_laid laysFs signsText w (by decide) signs_ascii hN.tab).mono ?_
  rintro e w' ⟨he, hw⟩
  rw [signs_len] at he
  rw [signs_fields] at hw
  exact ⟨he, hw⟩
end Go.Proofs.YtijahadmaggncaaDoor
