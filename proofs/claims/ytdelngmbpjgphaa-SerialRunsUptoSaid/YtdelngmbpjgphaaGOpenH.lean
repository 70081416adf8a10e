/- Texts merged: Sm5, OpenEx, Open2, OpenH. -/
import Derived.Test.YtdelngmbpjgphaaSm4
import Derived.Test.YtdelngmbpjgphaaGHpEq
import Derived.Test.YtdelngmbpjgphaaOpen
import Derived.OpenShut
/- The walk of the law SerialRuns. -/
namespace Go.Proofs.Ytdelngmbpjgphaa
open Go.RowKit
set_option linter.unusedVariables false
theorem runE_len8 (l : List St) (f : Int) (h : List Int) (hl : h.length = 8) : (runE l f h).1.h.length = 8 := by
  unfold runE
  split
  · rfl
  · split
    · rename_i m hm
      exact (blR_len _ _ _ _ _ _ hm).trans hl
    · rfl
set_option maxHeartbeats 4000000 in
set_option maxRecDepth 100000 in
theorem serialRuns_walk (l : List St) (f : Int) (h : List Int) (w : World) (v : Value) (r : RdSts w (Upto w.heap.size) l v) (hwt : St.wts l ≤ 1048576) (hl8 : h.length = 8) (hin : ∀ x ∈ h, inI x) :
    Calls Try.prog 5 #[v, .agg (h.map vI).toArray, vI f] w fun e w' => e = .returned (.bool true) ∧ Below w.heap.size w w' := by
  have C1 := fun (w : World) (S : Blocks) (hS : Sub S (Upto w.heap.size)) (r : RdSts w S l v) => Run_any l f h w S v hS r hwt hl8 hin
  have C2 := fun (w : World) (S : Blocks) (hS : Sub S (Upto w.heap.size)) (r : RdSts w S l v) => Trace_any l f h w S v hS r hwt hl8 hin
  have C3 := fun (w : World) (S : Blocks) (hS : Sub S (Upto w.heap.size)) (r : RdSts w S l v) => MRun_any l f h w S v hS r hwt hl8 hin
  have hl2 := runE_len8 l f h hl8
  obtain ⟨a0, a1, a2, a3, a4, a5, a6, a7, rfl⟩ := list8 hl8
  generalize hE : runE l f [a0, a1, a2, a3, a4, a5, a6, a7] = E at *
  obtain ⟨⟨hh, sn, tr⟩, er⟩ := E
  simp only at hl2
  obtain ⟨b0, b1, b2, b3, b4, b5, b6, b7, rfl⟩ := list8 hl2
  have bA : Below w.heap.size w (w.alloc (.cells #[vI a0, vI a1, vI a2, vI a3, vI a4, vI a5, vI a6, vI a7] 38)) := (Below.refl _ _).alloc (Nat.le_refl _) _
  have B0 := Blk.made w [vI a0, vI a1, vI a2, vI a3, vI a4, vI a5, vI a6, vI a7] 38 (base := 0) (Nat.zero_le _)
  have BL := Lib.hid bA
  have H0 := Lib.hid B0
  have R := Lib.hid (r.go RdSt.keeps bA (Sub.refl _) (Sub.refl _))
  simp only [List.map] at C1 C2 C3 ⊢
  have CA := Lib.hid C1
  have CB := Lib.hid C2
  have CC := Lib.hid C3
  clear r bA B0 hin hl8 hl2 C1 C2 C3 hE
  go_enter Try.func5, Try.ntmps5
  go_upto_region 1 with (fail)
  generalize w.alloc (.cells #[vI a0, vI a1, vI a2, vI a3, vI a4, vI a5, vI a6, vI a7] 38) = W0 at *
  have HSU := Lib.hid (show ∀ W, Below w.heap.size w W → Sub (Upto w.heap.size) (Upto W.heap.size) from fun W hb => Sub.upto hb.size)
  have c0 := H0.out.cell 0 _ rfl; have c1 := H0.out.cell 1 _ rfl; have c2 := H0.out.cell 2 _ rfl; have c3 := H0.out.cell 3 _ rfl; have c4 := H0.out.cell 4 _ rfl; have c5 := H0.out.cell 5 _ rfl; have c6 := H0.out.cell 6 _ rfl; have c7 := H0.out.cell 7 _ rfl
  go_wp2_with fail
  refine (CA.out W0 _ (HSU.out _ BL.out) R.out).mono ?_
  rintro e w1 ⟨rfl, hb⟩
  have BL1 := Lib.hid (BL.out.trans (hb.mono BL.out.size))
  have H1 := Lib.hid (H0.out.below hb)
  have R1 := Lib.hid (R.out.go RdSt.keeps hb (HSU.out _ BL.out) (Sub.refl _))
  clear hb c0 c1 c2 c3 c4 c5 c6 c7 BL H0 R
  have hz1 : w.heap.size < w1.heap.size := H1.out.lt
  have bB : Below w1.heap.size w1 (w1.alloc (.cells #[vI b0, vI b1, vI b2, vI b3, vI b4, vI b5, vI b6, vI b7] 38)) := (Below.refl _ _).alloc (Nat.le_refl _) _
  have G1 := Lib.hid (Blk.made w1 [vI b0, vI b1, vI b2, vI b3, vI b4, vI b5, vI b6, vI b7] 38 (base := 0) (Nat.zero_le _))
  have BL2 := Lib.hid (BL1.out.trans (bB.mono BL1.out.size))
  have H2 := Lib.hid (H1.out.below bB)
  have R2 := Lib.hid (R1.out.go RdSt.keeps bB (HSU.out _ BL1.out) (Sub.refl _))
  clear bB
  go_upto_region 2 with (fail)
  generalize (w1.alloc (.cells #[vI b0, vI b1, vI b2, vI b3, vI b4, vI b5, vI b6, vI b7] 38)) = W2 at *
  obtain ⟨z1, hzz⟩ : ∃ z, z = w1.heap.size := ⟨_, rfl⟩
  rw [← hzz] at G1
  rw [← hzz]
  clear hzz BL1 H1 R1
  have c0 := H2.out.cell 0 _ rfl; have c1 := H2.out.cell 1 _ rfl; have c2 := H2.out.cell 2 _ rfl; have c3 := H2.out.cell 3 _ rfl; have c4 := H2.out.cell 4 _ rfl; have c5 := H2.out.cell 5 _ rfl; have c6 := H2.out.cell 6 _ rfl; have c7 := H2.out.cell 7 _ rfl
  go_wp2_with fail
  refine (CB.out W2 _ (HSU.out _ BL2.out) R2.out).mono ?_
  rintro e w3 ⟨⟨x1, rfl, hx1⟩, hb⟩
  have HX1 := Lib.hid (Fr.of hx1 (Sub.plus_upto (Sub.nowhere _)))
  obtain ⟨A1, n1, rfl, -⟩ := hx1.form
  have BL3 := Lib.hid (BL2.out.trans (hb.mono BL2.out.size))
  have H3 := Lib.hid (H2.out.below hb)
  have G3 := Lib.hid (G1.out.below hb)
  have R3 := Lib.hid (R2.out.go RdSt.keeps hb (HSU.out _ BL2.out) (Sub.refl _))
  clear hb c0 c1 c2 c3 c4 c5 c6 c7 BL2 H2 R2 G1 hx1
  have c0 := H3.out.cell 0 _ rfl; have c1 := H3.out.cell 1 _ rfl; have c2 := H3.out.cell 2 _ rfl; have c3 := H3.out.cell 3 _ rfl; have c4 := H3.out.cell 4 _ rfl; have c5 := H3.out.cell 5 _ rfl; have c6 := H3.out.cell 6 _ rfl; have c7 := H3.out.cell 7 _ rfl
  go_wp2_with fail
  refine (CC.out w3 _ (HSU.out _ BL3.out) R3.out).mono ?_
  rintro e w4 ⟨⟨x2, rfl, hx2⟩, hb⟩
  have HX2 := Lib.hid (Fr.of hx2 (Sub.plus_upto (Sub.nowhere _)))
  obtain ⟨A2, n2, rfl, -⟩ := hx2.form
  have HX3 := Lib.hid (HX1.out.via hb)
  have BL4 := Lib.hid (BL3.out.trans (hb.mono BL3.out.size))
  have G4 := Lib.hid (G3.out.below hb)
  have R4 := Lib.hid (R3.out.go RdSt.keeps hb (HSU.out _ BL3.out) (Sub.refl _))
  clear hb c0 c1 c2 c3 c4 c5 c6 c7 BL3 H3 R3 G3 hx2 HX1
  have bB : Below w4.heap.size w4 (w4.alloc (.cells #[vI b0, vI b1, vI b2, vI b3, vI b4, vI b5, vI b6, vI b7] 38)) := (Below.refl _ _).alloc (Nat.le_refl _) _
  have D5 := Lib.hid (Blk.made w4 [vI b0, vI b1, vI b2, vI b3, vI b4, vI b5, vI b6, vI b7] 38 (base := 0) (Nat.zero_le _))
  have BL5 := Lib.hid (BL4.out.trans (bB.mono BL4.out.size))
  have G5 := Lib.hid (G4.out.below bB)
  have R5 := Lib.hid (R4.out.go RdSt.keeps bB (HSU.out _ BL4.out) (Sub.refl _))
  have HX5 := Lib.hid (HX3.out.via bB)
  have HX6 := Lib.hid (HX2.out.via bB)
  clear bB
  go_upto_region 4 with (fail)
  generalize (w4.alloc (.cells #[vI b0, vI b1, vI b2, vI b3, vI b4, vI b5, vI b6, vI b7] 38)) = W5 at *
  obtain ⟨z2, hzz⟩ : ∃ z, z = w4.heap.size := ⟨_, rfl⟩
  rw [← hzz] at D5
  rw [← hzz]
  clear hzz BL4 G4 R4 HX3 HX2
  have c0 := G5.out.cell 0 _ rfl; have c1 := G5.out.cell 1 _ rfl; have c2 := G5.out.cell 2 _ rfl; have c3 := G5.out.cell 3 _ rfl; have c4 := G5.out.cell 4 _ rfl; have c5 := G5.out.cell 5 _ rfl; have c6 := G5.out.cell 6 _ rfl; have c7 := G5.out.cell 7 _ rfl
  have d0 := D5.out.cell 0 _ rfl; have d1 := D5.out.cell 1 _ rfl; have d2 := D5.out.cell 2 _ rfl; have d3 := D5.out.cell 3 _ rfl; have d4 := D5.out.cell 4 _ rfl; have d5 := D5.out.cell 5 _ rfl; have d6 := D5.out.cell 6 _ rfl; have d7 := D5.out.cell 7 _ rfl
  have hg5 : z1 < W5.heap.size := G5.out.lt
  have hd5 : z2 < W5.heap.size := D5.out.lt
  have hpe := heap_eq b0 b1 b2 b3 b4 b5 b6 b7 W5
  go_wp2_with fail
  refine (equalAcc tr _ _ _ HX5.out HX6.out).mono ?_
  rintro e wc ⟨rfl, hb3⟩
  have BL6 := Lib.hid (BL5.out.trans (hb3.mono BL5.out.size))
  have R6 := Lib.hid (R5.out.go RdSt.keeps hb3 (HSU.out _ BL5.out) (Sub.refl _))
  clear hpe hb3 c0 c1 c2 c3 c4 c5 c6 c7 d0 d1 d2 d3 d4 d5 d6 d7 hg5 hd5 BL5 R5
  go_wp2_with fail
  refine (wrong_any l f wc _ _ (HSU.out _ BL6.out) R6.out hwt).mono ?_
  rintro e wd ⟨rfl, hb4⟩
  have BL7 := Lib.hid (BL6.out.trans (hb4.mono BL6.out.size))
  have R7 := Lib.hid (R6.out.go RdSt.keeps hb4 (HSU.out _ BL6.out) (Sub.refl _))
  clear hb4 BL6 R6
  go_wp2_with fail
  refine (mwrong_any l f wd _ _ (HSU.out _ BL7.out) R7.out hwt).mono ?_
  rintro e we ⟨rfl, hb5⟩
  have BL8 := Lib.hid (BL7.out.trans (hb5.mono BL7.out.size))
  clear hb5 BL7 R7
  go_wp2
  go_ret
  exact ⟨by simp, BL8.out⟩
end Go.Proofs.Ytdelngmbpjgphaa
/- Expressions that came in: they read as Lean data. -/
namespace Go.Proofs.Ytdelngmbpjgphaa
open Go.ChangeShapes Go.WideShapes Go.ChangeAt Go.RowKit Go.Deep
set_option linter.unusedVariables false
instance : Inhabited Ex := ⟨.mk 0 0 ⟨#[]⟩ []⟩
instance : Inhabited St := ⟨.mk 0 ⟨#[]⟩ default default [] []⟩
instance : Inhabited Tm := ⟨.mk 0 0 false 0 []⟩
theorem cellsInt : Try.prog.cellsOf 3 = 1 := by kernel_rfl
theorem cellsStr : Try.prog.cellsOf 9 = 1 := by kernel_rfl
theorem cellsBool : Try.prog.cellsOf 4 = 1 := by kernel_rfl
theorem cellsEx : Try.prog.cellsOf 110 = 4 := by kernel_rfl
theorem cellsExs : Try.prog.cellsOf 108 = 1 := by kernel_rfl
theorem bytesEx : Try.prog.bytesOf 110 = 56 := by kernel_rfl

section
variable {H : Type} {enc : TypeId × Value → H} {w : World} {spare : Nat → Bool} {held : Bool}
theorem ex_open : ∀ (fuel : Nat) (cs : List Value) (x : DataW H × List MemPlace), DataW.trod enc Try.prog w 0 spare held fuel 110 cs = some x → Light Try.prog 110 x.1 →
    ∃ e, RdEx w (Upto w.heap.size) e cs ∧ Ex.wt e ≤ Rows.uptoBulk x.1 := by
  intro fuel
  induction fuel using Nat.strongRecOn with
  | ind fuel ih =>
    intro cs x h hL
    obtain ⟨xs, n, rfl, rfl, hlen, hxl, hg⟩ := DataW.trod_struct Try.underlying110 h
    rw [cellsEx] at hlen
    obtain ⟨c0, c1, c2, c3, rfl⟩ := len4 hlen
    obtain ⟨y0, y1, y2, y3, rfl⟩ := len4 hxl
    have g0 := hg 0 _ rfl
    have g1 := hg 1 _ rfl
    have g2 := hg 2 _ rfl
    have g3 := hg 3 _ rfl
    simp [cellsInt, cellsStr, cellsExs] at g0 g1 g2 g3
    have l2 := hL.field Try.underlying110 (i := 2) (f := _) (d := y2.1) rfl rfl
    have l3 := hL.field Try.underlying110 (i := 3) (f := _) (d := y3.1) rfl rfl
    obtain ⟨k, e0, rfl, wk⟩ := DataW.trod_int Try.underlying3 g0
    obtain ⟨m, e1, rfl, wm⟩ := DataW.trod_int Try.underlying3 g1
    obtain ⟨s, e2, rfl, ws⟩ := DataW.trod_string Try.underlying9 g2
    obtain ⟨l, v, e3, hv, hb⟩ := slice_open (mu := Ex.wt) (rd := RdEx) Try.underlying108 cellsEx bytesEx (by decide) l3 g3 (fun n' cs' y hn hy hLy => ih n' (by omega) cs' y hy hLy)
    simp only [List.cons.injEq, and_true] at e0 e1 e2 e3
    subst e0 e1 e2 e3
    refine ⟨.mk k m s l, RdEx.shut (inI_wf wk) (inI_wf wm) l2.string hv, ?_⟩
    simp only [Ex.wt, Ex.wts_eq, List.map_cons, List.map_nil, Rows.uptoBulk, Rows.uptoBulkAll, Array.length_toList]
    have : s.data.size = s.size := rfl
    omega
end
end Go.Proofs.Ytdelngmbpjgphaa
/- Expressions, statements and terms that came in: they read as Lean data. -/
namespace Go.Proofs.Ytdelngmbpjgphaa
open Go.ChangeShapes Go.WideShapes Go.ChangeAt Go.RowKit Go.Deep
set_option linter.unusedVariables false
theorem cellsSt : Try.prog.cellsOf 112 = 12 := by kernel_rfl
theorem cellsSts : Try.prog.cellsOf 36 = 1 := by kernel_rfl
theorem bytesSt : Try.prog.bytesOf 112 = 184 := by kernel_rfl

section
variable {H : Type} {enc : TypeId × Value → H} {w : World} {spare : Nat → Bool} {held : Bool}
theorem st_open : ∀ (fuel : Nat) (cs : List Value) (x : DataW H × List MemPlace), DataW.trod enc Try.prog w 0 spare held fuel 112 cs = some x → Light Try.prog 112 x.1 →
    ∃ e, RdSt w (Upto w.heap.size) e cs ∧ St.wt e ≤ Rows.uptoBulk x.1 := by
  intro fuel
  induction fuel using Nat.strongRecOn with
  | ind fuel ih =>
    intro cs x h hL
    obtain ⟨xs, n, rfl, rfl, hlen, hxl, hg⟩ := DataW.trod_struct Try.underlying112 h
    rw [cellsSt] at hlen
    obtain ⟨c0, c1, c2, c3, c4, c5, c6, c7, c8, c9, c10, c11, rfl⟩ := len12 hlen
    obtain ⟨y0, y1, y2, y3, y4, y5, rfl⟩ := len6 hxl
    have g0 := hg 0 _ rfl
    have g1 := hg 1 _ rfl
    have g2 := hg 2 _ rfl
    have g3 := hg 3 _ rfl
    have g4 := hg 4 _ rfl
    have g5 := hg 5 _ rfl
    simp [cellsInt, cellsStr, cellsEx, cellsSts] at g0 g1 g2 g3 g4 g5
    have l1 := hL.field Try.underlying112 (i := 1) (f := _) (d := y1.1) rfl rfl
    have l2 := hL.field Try.underlying112 (i := 2) (f := _) (d := y2.1) rfl rfl
    have l3 := hL.field Try.underlying112 (i := 3) (f := _) (d := y3.1) rfl rfl
    have l4 := hL.field Try.underlying112 (i := 4) (f := _) (d := y4.1) rfl rfl
    have l5 := hL.field Try.underlying112 (i := 5) (f := _) (d := y5.1) rfl rfl
    obtain ⟨k, e0, rfl, wk⟩ := DataW.trod_int Try.underlying3 g0
    obtain ⟨s, e1, rfl, ws⟩ := DataW.trod_string Try.underlying9 g1
    obtain ⟨a, ra, ha⟩ := ex_open _ _ _ g2 l2
    obtain ⟨b, rb, hb⟩ := ex_open _ _ _ g3 l3
    obtain ⟨l, v, e4, hv, hbl⟩ := slice_open (mu := St.wt) (rd := RdSt) Try.underlying36 cellsSt bytesSt (by decide) l4 g4 (fun n' cs' y hn hy hLy => ih n' (by omega) cs' y hy hLy)
    obtain ⟨l', v', e5, hv', hbl'⟩ := slice_open (mu := St.wt) (rd := RdSt) Try.underlying36 cellsSt bytesSt (by decide) l5 g5 (fun n' cs' y hn hy hLy => ih n' (by omega) cs' y hy hLy)
    simp only [List.cons.injEq, and_true] at e0 e1 e4 e5
    subst e0 e1 e4 e5
    refine ⟨.mk k s a b l l', RdSt.shut (inI_wf wk) l1.string ra rb hv hv', ?_⟩
    simp only [St.wt, St.wts_eq, List.map_cons, List.map_nil, Rows.uptoBulk, Rows.uptoBulkAll, Array.length_toList]
    have : s.data.size = s.size := rfl
    omega
theorem sts_open {fuel : Nat} {cs : List Value} {x : DataW H × List MemPlace} (h : DataW.trod enc Try.prog w 0 spare held fuel 36 cs = some x) (hL : Light Try.prog 36 x.1) :
    ∃ l v, cs = [v] ∧ RdSts w (Upto w.heap.size) l v ∧ St.wts l + 1 ≤ Rows.uptoBulk x.1 := by
  obtain ⟨l, v, h1, h2, h3⟩ := slice_open (mu := St.wt) (rd := RdSt) Try.underlying36 cellsSt bytesSt (by decide) hL h (fun n' cs' y _ hy hLy => st_open n' cs' y hy hLy)
  exact ⟨l, v, h1, h2, by rw [St.wts_eq]; exact h3⟩
end
end Go.Proofs.Ytdelngmbpjgphaa
/- A heap that came in: it reads as eight whole numbers. -/
namespace Go.Proofs.Ytdelngmbpjgphaa
open Go.ChangeShapes Go.WideShapes Go.ChangeAt Go.RowKit Go.Deep
set_option linter.unusedVariables false
theorem cellsHp : Try.prog.cellsOf 38 = 8 := by kernel_rfl
theorem okWide_array' {P : Program} {w : World} {r : Reach} {base : Nat} {t e : TypeId} {n : Nat} {v : Value} (ht : P.underlying t = some (.array n e)) (h : Value.okWide P w r base t v) : ∃ cs, v = .agg cs ∧ cs.size = P.cellsOf t := by
  simp only [Value.okWide, ht] at h
  obtain ⟨cs, h1, h2, _⟩ := h
  exact ⟨cs, h1, h2⟩
section
variable {H : Type} {enc : TypeId × Value → H} {w : World} {spare : Nat → Bool} {held : Bool}
theorem heap_open {fuel : Nat} {cs : List Value} {x : DataW H × List MemPlace} (h : DataW.trod enc Try.prog w 0 spare held fuel 38 cs = some x) :
    ∃ l : List Int, cs = l.map (Value.int .i64) ∧ l.length = 8 ∧ ∀ z ∈ l, inI z := by
  obtain ⟨xs, m, rfl, rfl, hlen, hl, hg⟩ := DataW.trod_array Try.underlying38 h
  rw [cellsHp] at hlen
  rw [cellsInt] at hg
  obtain ⟨c0, c1, c2, c3, c4, c5, c6, c7, rfl⟩ := len8 hlen
  obtain ⟨y0, y1, y2, y3, y4, y5, y6, y7, rfl⟩ := len8 hl
  have g0 := hg 0 (by omega); have g1 := hg 1 (by omega); have g2 := hg 2 (by omega); have g3 := hg 3 (by omega); have g4 := hg 4 (by omega); have g5 := hg 5 (by omega); have g6 := hg 6 (by omega); have g7 := hg 7 (by omega)
  simp only [List.drop_succ_cons, List.drop_zero, List.take_succ_cons, List.take_zero, Nat.mul_one, List.getElem?_cons_zero, List.getElem?_cons_succ] at g0 g1 g2 g3 g4 g5 g6 g7
  obtain ⟨z0, e0, _, wz0⟩ := DataW.trod_int Try.underlying3 g0; obtain ⟨z1, e1, _, wz1⟩ := DataW.trod_int Try.underlying3 g1; obtain ⟨z2, e2, _, wz2⟩ := DataW.trod_int Try.underlying3 g2; obtain ⟨z3, e3, _, wz3⟩ := DataW.trod_int Try.underlying3 g3; obtain ⟨z4, e4, _, wz4⟩ := DataW.trod_int Try.underlying3 g4; obtain ⟨z5, e5, _, wz5⟩ := DataW.trod_int Try.underlying3 g5; obtain ⟨z6, e6, _, wz6⟩ := DataW.trod_int Try.underlying3 g6; obtain ⟨z7, e7, _, wz7⟩ := DataW.trod_int Try.underlying3 g7
  simp only [List.cons.injEq, and_true] at e0 e1 e2 e3 e4 e5 e6 e7
  subst e0 e1 e2 e3 e4 e5 e6 e7
  refine ⟨[z0, z1, z2, z3, z4, z5, z6, z7], rfl, rfl, ?_⟩
  intro z hz
  simp only [List.mem_cons, List.not_mem_nil, or_false] at hz
  rcases hz with h | h | h | h | h | h | h | h
  · rw [h]; exact inI_wf wz0
  · rw [h]; exact inI_wf wz1
  · rw [h]; exact inI_wf wz2
  · rw [h]; exact inI_wf wz3
  · rw [h]; exact inI_wf wz4
  · rw [h]; exact inI_wf wz5
  · rw [h]; exact inI_wf wz6
  · rw [h]; exact inI_wf wz7
end
end Go.Proofs.Ytdelngmbpjgphaa
