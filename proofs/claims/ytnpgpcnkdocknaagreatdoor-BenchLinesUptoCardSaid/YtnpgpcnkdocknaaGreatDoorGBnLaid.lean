/- Texts merged: OpenRep, StrE, Bn5, LaidUp, BnLaid. -/
import Derived.Test.YtnpgpcnkdocknaaGreatDoorGBn1
import Derived.Test.YtnpgpcnkdocknaaGreatDoorBn2
import Derived.Test.YtnpgpcnkdocknaaGreatDoorGPq2
import Derived.Test.YtnpgpcnkdocknaaGreatDoorGKq3
import Derived.Test.YtnpgpcnkdocknaaGreatDoorGKq10
import Derived.Test.YtnpgpcnkdocknaaGreatDoorGKp6
import Derived.Test.YtnpgpcnkdocknaaGreatDoorGPq4
import Derived.BigQuiet
import Derived.BigRegion
import Derived.Test.YtnpgpcnkdocknaaGreatDoorBase
import Derived.ProofKit
import Derived.LaidMore
import Derived.JoinedCond
import Derived.Deep.CondSized
import Derived.Test.YtnpgpcnkdocknaaGreatDoorGKq5
import Derived.Test.YtnpgpcnkdocknaaGreatDoorGPb3
import Derived.Lib.LaidTab
import Derived.Lib.LaidU8
import Derived.Stop.LaidErr
import Derived.Test.YtnpgpcnkdocknaaGreatDoorRows
namespace Go.Proofs.YtnpgpcnkdocknaaGreatDoor
open Go.ChangeShapes Go.WideShapes Go.ChangeAt Go.RowKit Go.Deep
set_option linter.unusedVariables false
theorem cellsRp : Tryz.prog.cellsOf 28 = 15 := by kernel_rfl
theorem cellsErrno : Tryz.prog.cellsOf 22 = 1 := by kernel_rfl
theorem cellsRI : Tryz.prog.cellsOf 3 = 1 := by kernel_rfl
theorem bytesRI : Tryz.prog.bytesOf 3 = 8 := by kernel_rfl
theorem cellsPr : Tryz.prog.cellsOf 57 = 2 := by kernel_rfl
theorem bytesPr : Tryz.prog.bytesOf 57 = 16 := by kernel_rfl
theorem cellsPrs : Tryz.prog.cellsOf 25 = 1 := by kernel_rfl
theorem cellsRIs : Tryz.prog.cellsOf 26 = 1 := by kernel_rfl
theorem len15 {α : Type} {l : List α} (h : l.length = 15) : ∃ c0 c1 c2 c3 c4 c5 c6 c7 c8 c9 c10 c11 c12 c13 c14, l = [c0, c1, c2, c3, c4, c5, c6, c7, c8, c9, c10, c11, c12, c13, c14] := by
 match l, h with
 | [c0, c1, c2, c3, c4, c5, c6, c7, c8, c9, c10, c11, c12, c13, c14], _ => exact ⟨c0, c1, c2, c3, c4, c5, c6, c7, c8, c9, c10, c11, c12, c13, c14, rfl⟩
structure Rep where
 er : Int
 at_ : Int
 hs : List Int
 wk : Int
 sp : Int
 ps : List (Int × Int)
 cs : List Int
 ms : List (Int × Int)
def RdRep (w : World) (S : Blocks) (x : Rep) (c : List Value) : Prop :=
 x.hs.length = 8 ∧ (∀ n ∈ x.hs, inI n) ∧ inI x.er ∧ inI x.at_ ∧ inI x.wk ∧ inI x.sp ∧ ∃ V1 V2 V3, c = .int .i64 x.er :: .int .i64 x.at_ :: (x.hs.map (Value.int .i64) ++ [.int .i64 x.wk, .int .i64 x.sp, V1, V2, V3]) ∧ RdQ w S x.ps V1 ∧ RdI w S x.cs V2 ∧ RdQ w S x.ms V3
def Rep.mu (x : Rep) : Nat := x.ps.length + x.cs.length + x.ms.length
section
variable {H : Type} {enc : TypeId × Value → H} {w : World} {spare : Nat → Bool} {held : Bool}
theorem prs_open {fuel : Nat} {cs : List Value} {x : DataW H × List MemPlace} (h : DataW.trod enc Tryz.prog w 0 spare held fuel 25 cs = some x) (hL : Light Tryz.prog 25 x.1) :
    ∃ l v, cs = [v] ∧ RdQ w (Upto w.heap.size) l v ∧ l.length + 1 ≤ Rows.uptoBulk x.1 := by
 obtain ⟨l, v, h1, h2, h3⟩ := slice_open (mu := fun (_ : Int × Int) => 1) (rd := Flat encQ okQ) Tryz.underlying25 cellsPr bytesPr (by decide) hL h (fun n' cs' y _ hy hLy => by
  obtain ⟨xs, n, rfl, rfl, hlen, hxl, hg⟩ := DataW.trod_struct Tryz.underlying57 hy
  rw [cellsPr] at hlen
  obtain ⟨c0, c1, rfl⟩ := len2 hlen
  obtain ⟨y0, y1, rfl⟩ := len2 hxl
  have g0 := hg 0 _ rfl
  have g1 := hg 1 _ rfl
  simp [cellsRI] at g0 g1
  obtain ⟨k0, e0, e0', wk0⟩ := DataW.trod_int Tryz.underlying3 g0
  obtain ⟨k1, e1, e1', wk1⟩ := DataW.trod_int Tryz.underlying3 g1
  simp only [List.cons.injEq, and_true] at e0 e1
  subst e0 e1
  exact ⟨(k0, k1), ⟨rfl, inI_wf wk0, inI_wf wk1⟩, by simp [Rows.uptoBulk]⟩)
 exact ⟨l, v, h1, h2, by rw [sum_one] at h3; exact h3⟩
theorem ris_open {fuel : Nat} {cs : List Value} {x : DataW H × List MemPlace} (h : DataW.trod enc Tryz.prog w 0 spare held fuel 26 cs = some x) (hL : Light Tryz.prog 26 x.1) :
    ∃ l v, cs = [v] ∧ RdI w (Upto w.heap.size) l v ∧ l.length + 1 ≤ Rows.uptoBulk x.1 := by
 obtain ⟨l, v, h1, h2, h3⟩ := slice_open (mu := fun (_ : Int) => 1) (rd := Flat encI inI) Tryz.underlying26 cellsRI bytesRI (by decide) hL h (fun n' cs' y _ hy hLy => by
  obtain ⟨k, e, e2, wk⟩ := DataW.trod_int Tryz.underlying3 hy
  exact ⟨k, ⟨e, inI_wf wk⟩, by rw [e2]; simp [Rows.uptoBulk]⟩)
 exact ⟨l, v, h1, h2, by rw [sum_one] at h3; exact h3⟩
set_option maxHeartbeats 1000000 in
theorem rep_open (fuel : Nat) (cs : List Value) (x : DataW H × List MemPlace) (h : DataW.trod enc Tryz.prog w 0 spare held fuel 28 cs = some x) (hL : Light Tryz.prog 28 x.1) :
    ∃ r, RdRep w (Upto w.heap.size) r cs ∧ Rep.mu r ≤ Rows.uptoBulk x.1 := by
 obtain ⟨xs, n, rfl, rfl, hlen, hxl, hg⟩ := DataW.trod_struct Tryz.underlying28 h
 rw [cellsRp] at hlen
 obtain ⟨c0, c1, c2, c3, c4, c5, c6, c7, c8, c9, c10, c11, c12, c13, c14, rfl⟩ := len15 hlen
 obtain ⟨y0, y1, y2, y3, y4, y5, y6, y7, rfl⟩ := len8 hxl
 have g0 := hg 0 _ rfl; have g1 := hg 1 _ rfl; have g2 := hg 2 _ rfl; have g3 := hg 3 _ rfl; have g4 := hg 4 _ rfl; have g5 := hg 5 _ rfl; have g6 := hg 6 _ rfl; have g7 := hg 7 _ rfl
 simp [cellsRI, cellsErrno, cellsHp, cellsPrs, cellsRIs] at g0 g1 g2 g3 g4 g5 g6 g7
 have l5 := hL.field Tryz.underlying28 (i := 5) (f := _) (d := y5.1) rfl rfl
 have l6 := hL.field Tryz.underlying28 (i := 6) (f := _) (d := y6.1) rfl rfl
 have l7 := hL.field Tryz.underlying28 (i := 7) (f := _) (d := y7.1) rfl rfl
 obtain ⟨k0, e0, e0', wk0⟩ := DataW.trod_int Tryz.underlying22 g0
 obtain ⟨k1, e1, e1', wk1⟩ := DataW.trod_int Tryz.underlying3 g1
 obtain ⟨hs, e2, hs8, hsi⟩ := heap_open g2
 obtain ⟨k3, e3, e3', wk3⟩ := DataW.trod_int Tryz.underlying3 g3
 obtain ⟨k4, e4, e4', wk4⟩ := DataW.trod_int Tryz.underlying3 g4
 obtain ⟨ps, V1, e5, r5, q5⟩ := prs_open g5 l5
 obtain ⟨is, V2, e6, r6, q6⟩ := ris_open g6 l6
 obtain ⟨ms, V3, e7, r7, q7⟩ := prs_open g7 l7
 simp only [List.cons.injEq, and_true] at e0 e1 e3 e4 e5 e6 e7
 subst e0 e1 e3 e4 e5 e6 e7
 refine ⟨⟨k0, k1, hs, k3, k4, ps, is, ms⟩, ⟨hs8, hsi, inI_wf wk0, inI_wf wk1, inI_wf wk3, inI_wf wk4, _, _, _, ?_, r5, r6, r7⟩, ?_⟩
 ·show _ = _ :: _ :: (hs.map (Value.int .i64) ++ _)
  rw [← e2]; rfl
 ·simp only [Rep.mu, Rows.uptoBulk, Rows.uptoBulkAll, List.map_cons, List.map_nil]
  omega
end
end Go.Proofs.YtnpgpcnkdocknaaGreatDoor
namespace Go.Proofs.YtnpgpcnkdocknaaGreatDoor
open Go.RowKit
set_option linter.unusedVariables false
set_option maxHeartbeats 400000 in
theorem equalSs (l : List Str) (w : World) (S T : Blocks) (v u : Value) (hS : Sub S (Upto w.heap.size)) (hT : Sub T (Upto w.heap.size)) (r : RdSs w S l v) (r' : RdSs w T l u) :
    Calls Tryz.prog 8 #[v, u] w fun e w' => e = .returned (.bool true) ∧ Below w.heap.size w w' := by
 obtain ⟨A, cap, rfl, hl, hcm, hby⟩ := r.form
 obtain ⟨A', cap', rfl, hl', hcm', _⟩ := r'.form
 unfold maxLen at hcm hcm'
 go_enter Tryz.func8, Tryz.ntmps8
 go_wp2
 go_loopw [13] (fun t wr => ∃ q : Nat, q ≤ l.length ∧ t = .int .i64 q ∧ Below w.heap.size w wr) (fun t _ => l.length - (intOf t).toNat)
 case atStart => exact ⟨0, by omega, rfl, Below.refl _ _⟩
 case round =>
  obtain ⟨q, hq, rfl, hbel⟩ := hrel
  by_cases hlt : q < l.length
  ·obtain ⟨b, off, rfl, hb, hok, hc⟩ := RdSs.at1 r hlt
   obtain ⟨b', off', rfl, hb', hok', hc'⟩ := RdSs.at1 r' hlt
   have e0 := (hbel.cell (p := ⟨b, off + q, none⟩) (hS _ hb)).trans hc
   have e1 := (hbel.cell (p := ⟨b', off' + q, none⟩) (hT _ hb')).trans hc'
   have hq1 : (q : Int) < (l.length : Int) := by omega
   have hq0 : (0 : Int) ≤ (q : Int) := by omega
   clear r r' hc hc'
   go_wp2
   all_goals (try go_quiet (fail))
   all_goals (try go_wp2)
   go_roundw
   case rel => exact ⟨q + 1, by omega, by go_num, below_drewN hbel _⟩
   case measure => simp [intOf]; omega
  ·go_wp2
   go_ret
   exact ⟨rfl, hbel⟩
theorem linesR_len (er at_ : Int) (hs : List Int) (wk sp : Int) (ps : List (Int × Int)) (cs : List Int) (ms : List (Int × Int)) : (linesR er at_ hs wk sp ps cs ms).length ≤ 2 + ps.length + cs.length + ms.length := by
 unfold linesR
 split
 ·simp only [List.length_append, List.length_map, List.length_cons, List.length_nil]; omega
 ·simp only [List.length_cons, List.length_nil]; omega
set_option maxHeartbeats 16000000 in
set_option maxRecDepth 100000 in
theorem benchLines_walk (x : Rep) (cs : Array Value) (s : ByteArray) (w : World) (r : RdRep w (Upto w.heap.size) x cs.toList) (hm : Rep.mu x ≤ 1048576) (hs : s.size ≤ 1048576) (hN : Nums w) (hF : FmtT w) :
    Calls Tryz.prog 3 #[.agg cs, .string s] w fun e w' => e = .returned (.bool true) ∧ Below w.heap.size w w' := by
 obtain ⟨er, at_, HSX, wk, sp, ps, is, ms⟩ := x
 obtain ⟨h8, hh, he, ha, hwk, hsp, V1, V2, V3, hcs, r1, r2, r3⟩ := r
 simp only at h8 hh he ha hwk hsp hcs r1 r2 r3
 obtain ⟨h0, h1, h2, h3, h4, h5, h6, h7, rfl⟩ := len8 h8
 simp only [List.map_cons, List.map_nil, List.cons_append, List.nil_append] at hcs
 have hcs2 := Array.toList_inj.1 (show cs.toList = (#[.int .i64 er, .int .i64 at_, .int .i64 h0, .int .i64 h1, .int .i64 h2, .int .i64 h3, .int .i64 h4, .int .i64 h5, .int .i64 h6, .int .i64 h7, .int .i64 wk, .int .i64 sp, V1, V2, V3] : Array Value).toList from hcs)
 subst hcs2
 unfold Rep.mu at hm
 simp only at hm
 have hl1 : ps.length ≤ 1048576 := by omega
 have hl2 : is.length ≤ 1048576 := by omega
 have hl3 : ms.length ≤ 1048576 := by omega
 have HLEN := hid (show (linesR er at_ [h0, h1, h2, h3, h4, h5, h6, h7] wk sp ps is ms).length * 16 ≤ 140737488355328 by have := linesR_len er at_ [h0, h1, h2, h3, h4, h5, h6, h7] wk sp ps is ms; omega)
 have HLL := hid (fun W (h : Below w.heap.size w W) => lines_n er at_ h0 h1 h2 h3 h4 h5 h6 h7 wk sp ps ms is V1 V2 V3 W (Upto w.heap.size) (Sub.upto h.size) (RdL.go r1 Flat.keeps h (Sub.refl _) (Sub.refl _)) (RdL.go r2 Flat.keeps h (Sub.refl _) (Sub.refl _)) (RdL.go r3 Flat.keeps h (Sub.refl _) (Sub.refl _)) he ha hh hwk hsp hl1 hl2 hl3 (hF.pow.go h))
 have HLY := hid (fun W (h : Below w.heap.size w W) => ylines_n er at_ h0 h1 h2 h3 h4 h5 h6 h7 wk sp ps ms is V1 V2 V3 W (Upto w.heap.size) (Sub.upto h.size) (RdL.go r1 Flat.keeps h (Sub.refl _) (Sub.refl _)) (RdL.go r2 Flat.keeps h (Sub.refl _) (Sub.refl _)) (RdL.go r3 Flat.keeps h (Sub.refl _) (Sub.refl _)) he ha hh hwk hsp hl1 hl2 hl3 (hF.pow.go h))
 obtain ⟨A1, k1, rfl, _, _, _⟩ := r1.form
 obtain ⟨A2, k2, rfl, _, _, _⟩ := r2.form
 obtain ⟨A3, k3, rfl, _, _, _⟩ := r3.form
 clear r1 r2 r3 he ha hh hwk hsp hm h8 hcs hl1 hl2 hl3
 have HN := hid hN
 have HF := hid hF
 have HW := hid (parG_small (l := s.data.toList) (by have := data_len s; omega))
 have HCA := hid (fun W (h : FmtT W) => canon_any s hs W h)
 have HKP := hid (fun W (h : Nums W) => kparse_any s hs W h)
 clear hN hF hs
 generalize linesR er at_ [h0, h1, h2, h3, h4, h5, h6, h7] wk sp ps is ms = LL at *
 generalize parG s.data.toList = Z at *
 obtain ⟨l, n, ez⟩ := Z
 unfold ParOut at HKP
 simp only at HKP HW
 have HCT := hid (show canT (l, n, ez) = if ez = 0 then (printS (renL l [] 0).1, printE (renL l [] 0).1) else (⟨#[]⟩, ez) from rfl)
 generalize canT (l, n, ez) = CT at *
 obtain ⟨tS, tE⟩ := CT
 simp only at HCA
 have bl0 : Below w.heap.size w (w.alloc (.cells #[.int .i64 er, .int .i64 at_, .int .i64 h0, .int .i64 h1, .int .i64 h2, .int .i64 h3, .int .i64 h4, .int .i64 h5, .int .i64 h6, .int .i64 h7, .int .i64 wk, .int .i64 sp, .slice A1 ps.length k1, .slice A2 is.length k2, .slice A3 ms.length k3] 28)) := (Below.refl _ _).alloc (Nat.le_refl _) _
 have HBX := hid (Blk.made w [.int .i64 er, .int .i64 at_, .int .i64 h0, .int .i64 h1, .int .i64 h2, .int .i64 h3, .int .i64 h4, .int .i64 h5, .int .i64 h6, .int .i64 h7, .int .i64 wk, .int .i64 sp, .slice A1 ps.length k1, .slice A2 is.length k2, .slice A3 ms.length k3] 28 (base := 0) (Nat.zero_le _))
 have HB0 := hid bl0
 obtain ⟨d, hd⟩ : ∃ d, d = w.heap.size := ⟨_, rfl⟩
 have hdw : w.heap.size ≤ d := by omega
 have hdW : d < (w.alloc (.cells #[.int .i64 er, .int .i64 at_, .int .i64 h0, .int .i64 h1, .int .i64 h2, .int .i64 h3, .int .i64 h4, .int .i64 h5, .int .i64 h6, .int .i64 h7, .int .i64 wk, .int .i64 sp, .slice A1 ps.length k1, .slice A2 is.length k2, .slice A3 ms.length k3] 28)).heap.size := by simp [hd]
 rw [← hd] at HBX
 clear bl0
 go_enter Tryz.func3, Tryz.ntmps3
 go_upto_region 1 with (fail)
 rw [← hd]
 clear hd
 generalize (w.alloc (.cells #[.int .i64 er, .int .i64 at_, .int .i64 h0, .int .i64 h1, .int .i64 h2, .int .i64 h3, .int .i64 h4, .int .i64 h5, .int .i64 h6, .int .i64 h7, .int .i64 wk, .int .i64 sp, .slice A1 ps.length k1, .slice A2 is.length k2, .slice A3 ms.length k3] 28)) = W0 at *
 have hW0 : w.heap.size ≤ W0.heap.size := HB0.out.size
 have HC := hid (HCA.out W0 (HF.out.go HB0.out))
 clear HCA
 go_upto_region 2 with (go_at_call 4; refine HC.out.mono ?_; rintro e w1 ⟨rfl, hb1⟩)
 have hz1 := hb1.size
 have HB1 := hid (HB0.out.trans (hb1.mono hW0))
 have HD1 := hid hb1
 have HK := hid (HKP.out w1 (HN.out.go HB1.out))
 clear HC HKP hb1
 go_upto_region 3 with (go_at_call 5; refine HK.out.mono ?_; rintro e w2 ⟨y, rfl, hy, hb2⟩)
 have HY := hid (RdL.sub hy RdSt.keeps (Sub.plus_to (Sub.nowhere (Upto w2.heap.size)) (Nat.le_refl _) (Nat.le_refl _)))
 have hz2 := hb2.size
 have HB2 := hid (HB1.out.trans (hb2.mono (Nat.le_trans hW0 hz1)))
 have HD2 := hid (HD1.out.trans (hb2.mono hz1))
 have F2 := hid (HF.out.go HB2.out)
 clear hy hb2 HK HD1 HB1
 by_cases hez : ez = 0
 ·subst hez
  rw [if_pos rfl] at HCT
  have HLR := hid (lren_any l w2 _ y (Sub.refl _) HY.out HW.out.1 F2.out.pow)
  clear HY
  go_upto_region 6 with (first
   | (go_at_call 7; refine HLR.out.mono ?_; rintro e w3 ⟨u, rfl, hu, hb3⟩; have HKR := hid (kprint_any (renL l [] 0).1 w3 _ u (Sub.refl _) (RdL.sub hu RdSt.keeps (Sub.plus_upto (Sub.upto hb3.size))) (F2.out.go hb3).pow HW.out.2))
   | (go_at_call 6; refine HKR.out.mono ?_; rintro e w4 ⟨rfl, hb4⟩))
  have hz3 := hb3.size
  have hz4 := hb4.size
  have HD4 := hid (HD2.out.trans ((hb3.trans (hb4.mono hz3)).mono (Nat.le_trans hz1 hz2)))
  have hce := HCT.out
  injection hce with hce1 hce2
  rw [← hce1, ← hce2]
  clear hb3 hb4 HLR HKR HB2 HD2 hce1 hce2
  generalize w4 = WZ at *
  have HB4 := hid (HB0.out.trans (HD4.out.mono hW0))
  have x0 := (HBX.out.below HD4.out).cell 0 _ rfl; have x1 := (HBX.out.below HD4.out).cell 1 _ rfl; have x2 := (HBX.out.below HD4.out).cell 2 _ rfl; have x3 := (HBX.out.below HD4.out).cell 3 _ rfl; have x4 := (HBX.out.below HD4.out).cell 4 _ rfl; have x5 := (HBX.out.below HD4.out).cell 5 _ rfl; have x6 := (HBX.out.below HD4.out).cell 6 _ rfl; have x7 := (HBX.out.below HD4.out).cell 7 _ rfl; have x8 := (HBX.out.below HD4.out).cell 8 _ rfl; have x9 := (HBX.out.below HD4.out).cell 9 _ rfl; have x10 := (HBX.out.below HD4.out).cell 10 _ rfl; have x11 := (HBX.out.below HD4.out).cell 11 _ rfl; have x12 := (HBX.out.below HD4.out).cell 12 _ rfl; have x13 := (HBX.out.below HD4.out).cell 13 _ rfl; have x14 := (HBX.out.below HD4.out).cell 14 _ rfl
  have HL1 := hid (fun W (h : Below WZ.heap.size WZ W) => HLL.out W (HB4.out.trans (h.mono HB4.out.size)))
  have HL2 := hid (fun W (h : Below WZ.heap.size WZ W) => HLY.out W (HB4.out.trans (h.mono HB4.out.size)))
  have hdZ : d < WZ.heap.size := Nat.lt_of_lt_of_le hdW HD4.out.size
  clear HCT HD4 HBX HLL HLY
  refine wp_region_pre 13 (S := (fun w' => Stay WZ w')) (by kernel_rfl) (by kernel_rfl) (Stay.mk (Kept.start _)) (fun hHeld => ?_)
  simp only [List.take_succ_cons, List.take_zero]
  refine tkA 0 30 ?_
  refine tkA 2 32 ?_
  (try simp only [Act.put, List.setIfInBounds_toArray, List.set_cons_zero, List.set_cons_succ])
  refine wpAnyH_ready (rs := [1]) (by kernel_rfl) (by simp) ?_
  refine AllReadyH.cons rfl (fun K hK => ?_) AllReadyH.nil
  go_simp
  refine (HL1.out WZ.drew (Below.refl _ _).drew).mono ?_
  rintro e wa ⟨xa, rfl, ha, hba⟩
  have hst1 : Stay WZ wa := Stay.step hba hHeld
  refine hK.out _ _ ?_ (fun hHeld => ?_)
  ·exact hst1
  clear hK K
  (try simp only [Act.put, List.setIfInBounds_toArray, List.set_cons_zero, List.set_cons_succ])
  have HA := hid ha
  clear ha hba
  refine wpAnyH_ready (rs := [3]) (by kernel_rfl) (by simp) ?_
  refine AllReadyH.cons rfl (fun K hK => ?_) AllReadyH.nil
  go_simp
  refine (HL2.out _ (Stay.below hst1)).mono ?_
  rintro e wb ⟨xb, rfl, hb, hbb⟩
  have hst2 : Stay WZ wb := Stay.step hbb hst1
  refine hK.out _ _ ?_ (fun hHeld => ?_)
  ·exact hst2
  clear hK K
  (try simp only [Act.put, List.setIfInBounds_toArray, List.set_cons_zero, List.set_cons_succ])
  have HA2 := hid (OwnL.toRd (bytes := 16) (S' := Upto wb.heap.size) (OwnL.keep HA.out Flat.keeps hbb) Flat.keeps HLEN.out (Sub.nowhere _) (fun b _ h => h))
  have HA3 := hid (OwnL.toRd (bytes := 16) (S' := Upto wb.heap.size) hb Flat.keeps HLEN.out (Sub.nowhere _) (fun b _ h => h))
  clear hb hbb
  refine wpAnyH_ready (rs := [4]) (by kernel_rfl) (by simp) ?_
  refine AllReadyH.cons rfl (fun K hK => ?_) AllReadyH.nil
  go_simp
  refine (equalSs LL wb (Upto wb.heap.size) (Upto wb.heap.size) _ _ (Sub.refl _) (Sub.refl _) HA2.out HA3.out).mono ?_
  rintro e wc ⟨rfl, hbc⟩
  have hst3 : Stay WZ wc := Stay.step hbc hst2
  refine hK.out _ _ ?_ (fun hHeld => ?_)
  ·exact hst3
  clear hK K
  refine tkA 5 35 ?_
  refine tkA 6 36 ?_
  refine tkA 7 37 ?_
  refine tkA 8 38 ?_
  refine tkA 9 39 ?_
  refine tkA 10 40 ?_
  refine tkA 11 41 ?_
  refine tkA 12 42 ?_
  (try simp only [Act.put, List.setIfInBounds_toArray, List.set_cons_zero, List.set_cons_succ])
  refine wpAnyH_done (by kernel_rfl) ?_ _
  unfold QPre
  simp only [List.drop_succ_cons, List.drop_zero]
  have HBc : Below WZ.heap.size WZ wc := Stay.below hst3
  clear hst1 hst2 hst3 hHeld hbc
  go_wp2_with fail
  go_ret
  exact ⟨rfl, HB4.out.trans (HBc.mono HB4.out.size)⟩
 ·have hne : (ez == 0) = false := by simpa using hez
  rw [if_neg hez] at HCT
  go_upto_region 6 with (fail)
  have hce := HCT.out
  injection hce with hce1 hce2
  rw [← hce1, ← hce2]
  have HD4 := HD2
  clear HD2 HB2 HY hce1 hce2 hne hez
  generalize w2 = WZ at *
  have HB4 := hid (HB0.out.trans (HD4.out.mono hW0))
  have x0 := (HBX.out.below HD4.out).cell 0 _ rfl; have x1 := (HBX.out.below HD4.out).cell 1 _ rfl; have x2 := (HBX.out.below HD4.out).cell 2 _ rfl; have x3 := (HBX.out.below HD4.out).cell 3 _ rfl; have x4 := (HBX.out.below HD4.out).cell 4 _ rfl; have x5 := (HBX.out.below HD4.out).cell 5 _ rfl; have x6 := (HBX.out.below HD4.out).cell 6 _ rfl; have x7 := (HBX.out.below HD4.out).cell 7 _ rfl; have x8 := (HBX.out.below HD4.out).cell 8 _ rfl; have x9 := (HBX.out.below HD4.out).cell 9 _ rfl; have x10 := (HBX.out.below HD4.out).cell 10 _ rfl; have x11 := (HBX.out.below HD4.out).cell 11 _ rfl; have x12 := (HBX.out.below HD4.out).cell 12 _ rfl; have x13 := (HBX.out.below HD4.out).cell 13 _ rfl; have x14 := (HBX.out.below HD4.out).cell 14 _ rfl
  have HL1 := hid (fun W (h : Below WZ.heap.size WZ W) => HLL.out W (HB4.out.trans (h.mono HB4.out.size)))
  have HL2 := hid (fun W (h : Below WZ.heap.size WZ W) => HLY.out W (HB4.out.trans (h.mono HB4.out.size)))
  have hdZ : d < WZ.heap.size := Nat.lt_of_lt_of_le hdW HD4.out.size
  clear HCT HD4 HBX HLL HLY
  refine wp_region_pre 13 (S := (fun w' => Stay WZ w')) (by kernel_rfl) (by kernel_rfl) (Stay.mk (Kept.start _)) (fun hHeld => ?_)
  simp only [List.take_succ_cons, List.take_zero]
  refine tkA 0 30 ?_
  refine tkA 2 32 ?_
  (try simp only [Act.put, List.setIfInBounds_toArray, List.set_cons_zero, List.set_cons_succ])
  refine wpAnyH_ready (rs := [1]) (by kernel_rfl) (by simp) ?_
  refine AllReadyH.cons rfl (fun K hK => ?_) AllReadyH.nil
  go_simp
  refine (HL1.out WZ.drew (Below.refl _ _).drew).mono ?_
  rintro e wa ⟨xa, rfl, ha, hba⟩
  have hst1 : Stay WZ wa := Stay.step hba hHeld
  refine hK.out _ _ ?_ (fun hHeld => ?_)
  ·exact hst1
  clear hK K
  (try simp only [Act.put, List.setIfInBounds_toArray, List.set_cons_zero, List.set_cons_succ])
  have HA := hid ha
  clear ha hba
  refine wpAnyH_ready (rs := [3]) (by kernel_rfl) (by simp) ?_
  refine AllReadyH.cons rfl (fun K hK => ?_) AllReadyH.nil
  go_simp
  refine (HL2.out _ (Stay.below hst1)).mono ?_
  rintro e wb ⟨xb, rfl, hb, hbb⟩
  have hst2 : Stay WZ wb := Stay.step hbb hst1
  refine hK.out _ _ ?_ (fun hHeld => ?_)
  ·exact hst2
  clear hK K
  (try simp only [Act.put, List.setIfInBounds_toArray, List.set_cons_zero, List.set_cons_succ])
  have HA2 := hid (OwnL.toRd (bytes := 16) (S' := Upto wb.heap.size) (OwnL.keep HA.out Flat.keeps hbb) Flat.keeps HLEN.out (Sub.nowhere _) (fun b _ h => h))
  have HA3 := hid (OwnL.toRd (bytes := 16) (S' := Upto wb.heap.size) hb Flat.keeps HLEN.out (Sub.nowhere _) (fun b _ h => h))
  clear hb hbb
  refine wpAnyH_ready (rs := [4]) (by kernel_rfl) (by simp) ?_
  refine AllReadyH.cons rfl (fun K hK => ?_) AllReadyH.nil
  go_simp
  refine (equalSs LL wb (Upto wb.heap.size) (Upto wb.heap.size) _ _ (Sub.refl _) (Sub.refl _) HA2.out HA3.out).mono ?_
  rintro e wc ⟨rfl, hbc⟩
  have hst3 : Stay WZ wc := Stay.step hbc hst2
  refine hK.out _ _ ?_ (fun hHeld => ?_)
  ·exact hst3
  clear hK K
  refine tkA 5 35 ?_
  refine tkA 6 36 ?_
  refine tkA 7 37 ?_
  refine tkA 8 38 ?_
  refine tkA 9 39 ?_
  refine tkA 10 40 ?_
  refine tkA 11 41 ?_
  refine tkA 12 42 ?_
  (try simp only [Act.put, List.setIfInBounds_toArray, List.set_cons_zero, List.set_cons_succ])
  refine wpAnyH_done (by kernel_rfl) ?_ _
  unfold QPre
  simp only [List.drop_succ_cons, List.drop_zero]
  have HBc : Below WZ.heap.size WZ wc := Stay.below hst3
  clear hst1 hst2 hst3 hHeld hbc
  go_wp2_with fail
  go_ret
  exact ⟨rfl, HB4.out.trans (HBc.mono HB4.out.size)⟩
end Go.Proofs.YtnpgpcnkdocknaaGreatDoor
namespace Go.Proofs.YtnpgpcnkdocknaaGreatDoor
section
variable {H : Type} {enc : TypeId × Value → H}
theorem returns_of_cond_and {a : Assume} {C : Checked} {os : Os} {f : FuncId} {fn : Func} {s : OpenSpec} {k : (H : Type) → List (DataW H) → Bool} (hk : s.cond = some k) {F : Stop.Interp} {conds : List PathCond} {apart fresh handsOn again : Bool} {X : World → Array Value → Prop}
    (hX : ∀ (w w' : World) (args : Array Value), w.heap = w'.heap → X w args → X w' args)
    (own : ownKnob C.prog.godebug = none) (started : os.Started) (noInit : C.prog.inits.idxOf? f = none) (hfn : C.prog.funcs[f]? = some fn)
    (witness : ∃ (w : World) (tape : Tape) (i : Input), w.os = os ∧ (w.forCall tape i).Shaped C.prog ∧ i.vars = [] ∧ Input.okWide C.prog (w.forCall tape i) .any w.heap.size f i ∧
     ((s.pre enc C.prog fn conds apart (w.forCall tape i).memory i.args ∧ X (w.forCall tape i).memory i.args) ∧ sizedMet enc C.prog fn s apart (w.forCall tape i).memory i.args) ∧ a.holds C.prog (lone (Frame.enter C.prog f i.args .normal) [] (w.forCall tape i)))
    (contract : ∀ (W : World) (base : Nat) (args : Array Value) (ds gs : List (DataW H)) (before : List MemPlace),
     (∀ (j : Nat) t v, fn.params[j]? = some t → args[j]? = some v → Value.okWide C.prog W .any base t v) →
     DataW.Whole enc C.prog fn.params.toList s.vars apart W args.toList ds gs before →
     conds.all (PathCond.test C.prog ⟨fn.params.toList, ds, s.bare.plain.varTypes C.prog, gs⟩) = true → k H (ds ++ gs) = true →
     (DataW.weightsEach C.prog (fn.params.toList ++ s.bare.plain.varTypes C.prog) (ds ++ gs)).all (· ≤ reachBytes) = true → X W args →
     a.holds C.prog (lone (Frame.enter C.prog f args .normal) [] W) →
     Calls C.prog f args W fun e W' => ∃ v, e = .returned v ∧ (s.at F).post enc C.prog fn apart fresh handsOn again W args v W') :
    ReturnsInHanded a C os f .any (fun w args => (s.pre enc C.prog fn conds apart w args ∧ X w args) ∧ sizedMet enc C.prog fn s apart w args) ((s.at F).post enc C.prog fn apart fresh handsOn again) := by
 refine returnsInHanded_of_calls own started noInit witness ?_
 intro w tape i _ _ _ hok hpre hholds
 obtain ⟨_, _, _, fn', hfn', _, _, _, _, hval⟩ := hok
 have e : fn' = fn := Option.some.inj (hfn'.symm.trans hfn)
 subst e
 obtain ⟨ds, gs, before, hw, hc, hkk⟩ := (OpenSpec.pre_some hk conds apart _ _).1 hpre.1.1
 have hw' := DataW.Whole.of_heap (w' := w.forCall tape i) (by rfl) hw
 refine (contract (w.forCall tape i) w.heap.size i.args ds gs before hval hw' hc hkk (hpre.2.weights hw) (hX _ _ _ (by rfl) hpre.1.2) hholds).mono fun e W' ⟨v, he, hp⟩ => ?_
 subst he
 exact ChangeSpec.post_blind hp
theorem witness_cond_shaped {C : Checked} {os : Os} {f : FuncId} {fn : Func} {s : OpenSpec} {k : (H : Type) → List (DataW H) → Bool} (hk : s.cond = some k) {conds : List PathCond} {apart : Bool} {X : World → Array Value → Prop} (modest : Bool) (w0 : World) (args : Array Value) (fuel : Nat) (hos : w0.os = os)
    (hsh : (w0.forCall (fun _ _ => 0) ⟨#[], args, []⟩).Shaped C.prog)
    (hok : Input.okWideB C.prog (w0.forCall (fun _ _ => 0) ⟨#[], args, []⟩) f ⟨#[], args, []⟩ = true)
    {x : List (DataW H) × List (DataW H) × List MemPlace} (hx : DataW.whole enc C.prog (w0.forCall (fun _ _ => 0) ⟨#[], args, []⟩).memory fn.params.toList s.vars apart args.toList fuel = some x)
    (hconds : conds.all (PathCond.test C.prog ⟨fn.params.toList, x.1, s.bare.plain.varTypes C.prog, x.2.1⟩) = true) (hkk : k H (x.1 ++ x.2.1) = true)
    (hsz : s.bare.sizedB enc C.prog fn apart (w0.forCall (fun _ _ => 0) ⟨#[], args, []⟩).memory args fuel = true)
    (hX : X (w0.forCall (fun _ _ => 0) ⟨#[], args, []⟩).memory args) :
    ∃ (w : World) (tape : Tape) (i : Input), w.os = os ∧ (w.forCall tape i).Shaped C.prog ∧ i.vars = [] ∧ Input.okWide C.prog (w.forCall tape i) .any w.heap.size f i ∧
     ((s.pre enc C.prog fn conds apart (w.forCall tape i).memory i.args ∧ X (w.forCall tape i).memory i.args) ∧ sizedMet enc C.prog fn s apart (w.forCall tape i).memory i.args) ∧ ({ modest := modest } : Assume).holds C.prog (lone (Frame.enter C.prog f i.args .normal) [] (w.forCall tape i)) :=
 ⟨w0, fun _ _ => 0, ⟨#[], args, []⟩, hos, hsh, (Input.okWide_of_okWideB (base := 0) hok).1, (Input.okWide_of_okWideB hok).2,
  ⟨⟨(OpenSpec.pre_some hk conds apart _ _).2 ⟨x.1, x.2.1, x.2.2, DataW.Whole_of_whole hx, hconds, hkk⟩, hX⟩, sizedMet_of_sizedB hsz⟩, by
  simp only [Assume.holds]
  exact ⟨by simp, by simp, fun _ => Modest.zero, by simp, by simp⟩⟩
end
end Go.Proofs.YtnpgpcnkdocknaaGreatDoor
namespace Go.Proofs.YtnpgpcnkdocknaaGreatDoor
open Go.ChangeShapes Go.WideShapes Go.ChangeAt Go.RowKit
set_option linter.unusedVariables false
def laid1 : List (String × DataW Unit) := [("math/bits.deBruijn32tab", Rows.laid_math_bits_deBruijn32tab), ("math/bits.deBruijn64tab", Rows.laid_math_bits_deBruijn64tab), ("internal/strconv.uint64pow10", Rows.laid_internal_strconv_uint64pow10), ("strconv.ErrRange", Rows.laid_strconv_ErrRange), ("strconv.ErrSyntax", Rows.laid_strconv_ErrSyntax), ("unicode.White_Space", Rows.laid_unicode_White_Space), ("strings.asciiSpace", Rows.laid_strings_asciiSpace)]
theorem gPowT : (Tryz.prog.globals[0]?).map (·.type) = some 158 := by kernel_rfl
theorem cPow : Tryz.prog.cellsOf 158 = 20 := by kernel_rfl
theorem cU64 : Tryz.prog.cellsOf 138 = 1 := by kernel_rfl
theorem gAscT : (Tryz.prog.globals[4]?).map (·.type) = some 168 := by kernel_rfl
theorem cAsc : Tryz.prog.cellsOf 168 = 256 := by kernel_rfl
theorem cU8 : Tryz.prog.cellsOf 5 = 1 := by kernel_rfl
theorem ascEq : (Rows.laid_strings_asciiSpace : DataW Unit) = Lib.tabData .u8 Lib.asciiSpaceTab := by kernel_rfl
theorem gES : Tryz.prog.globalNamed "strconv.ErrSyntax" = some 1 := by kernel_rfl
theorem gEST : (Tryz.prog.globals[1]?).map (·.type) = some 92 := by kernel_rfl
theorem gER : Tryz.prog.globalNamed "strconv.ErrRange" = some 2 := by kernel_rfl
theorem gERT : (Tryz.prog.globals[2]?).map (·.type) = some 92 := by kernel_rfl
theorem cES : Tryz.prog.cellsOf 173 = 1 := by kernel_rfl
theorem cStr1 : Tryz.prog.cellsOf 9 = 1 := by kernel_rfl
theorem starE : "*" ++ "errors.errorString" = "*errors.errorString" := by decide
theorem rowES (u : TypeId) (h : Tryz.prog.typeName? 3 u = some "*errors.errorString") : u = 171 :=
 typeName_ptr_named (nm := "errors.errorString") (by rw [starE]; kernel_rfl) (by kernel_rfl) (by decide) u (by rw [starE]; exact h)
theorem nums_of_laid {W : World} (h : laidMetH Tryz.prog laid1 W) : Nums W := by
 rw [MakeChecks.laidMetH_plain _ _ _ (by kernel_rfl)] at h
 have hT : Lib.TabIs Tryz.prog W "internal/strconv.uint64pow10" .u64 Lib.pow10Tab := Lib.tabIs_of_head (rest := [("strconv.ErrRange", Rows.laid_strconv_ErrRange), ("strconv.ErrSyntax", Rows.laid_strconv_ErrSyntax), ("unicode.White_Space", Rows.laid_unicode_White_Space), ("strings.asciiSpace", Rows.laid_strings_asciiSpace)]) gPow gPowT Tryz.underlying158 Tryz.underlying138 cU64 cPow h.tail.tail
 obtain ⟨a0, s0, hv0, -, -, -⟩ := laid_sentinel h.tail.tail.tail gER gERT Tryz.underlying92 rowES Tryz.underlying171 Tryz.underlying173 rfl rfl Tryz.underlying9 cES cStr1
 obtain ⟨a1, s1, hv1, -, -, -⟩ := laid_sentinel h.tail.tail.tail.tail gES gEST Tryz.underlying92 rowES Tryz.underlying171 Tryz.underlying173 rfl rfl Tryz.underlying9 cES cStr1
 have c0 : W.cell? ⟨2, 0, none⟩ = _ := World.var?_cell gER hv0 0
 have c1 : W.cell? ⟨1, 0, none⟩ = _ := World.var?_cell gES hv1 0
 have c2 : W.cell? ⟨0, 0, none⟩ = _ := Lib.TabIs.cell hT gPow 0 (by decide)
 exact ⟨⟨_, c1, .inr ⟨_, _, rfl⟩⟩, ⟨_, c0, .inr ⟨_, _, rfl⟩⟩, hT, World.block_lt_of_cell? W _ c1, World.block_lt_of_cell? W _ c0, World.block_lt_of_cell? W _ c2⟩
theorem fmt_of_laid {W : World} (h : laidMetH Tryz.prog laid1 W) : FmtT W := by
 rw [MakeChecks.laidMetH_plain _ _ _ (by kernel_rfl)] at h
 have hT : Lib.TabIs Tryz.prog W "internal/strconv.uint64pow10" .u64 Lib.pow10Tab := Lib.tabIs_of_head (rest := [("strconv.ErrRange", Rows.laid_strconv_ErrRange), ("strconv.ErrSyntax", Rows.laid_strconv_ErrSyntax), ("unicode.White_Space", Rows.laid_unicode_White_Space), ("strings.asciiSpace", Rows.laid_strings_asciiSpace)]) gPowI gPowT Tryz.underlying158 Tryz.underlying138 cU64 cPow h.tail.tail
 have h4 : laidMet Tryz.prog [("strings.asciiSpace", Rows.laid_strings_asciiSpace)] W := h.tail.tail.tail.tail.tail.tail
 rw [ascEq] at h4
 have hS : Lib.TabIs Tryz.prog W "strings.asciiSpace" .u8 Lib.asciiSpaceTab := Lib.tabIs_of_head (rest := []) gAsc gAscT Tryz.underlying168 Tryz.underlying5 cU8 cAsc h4
 have c2 : W.cell? ⟨0, 0, none⟩ = _ := Lib.TabIs.cell hT gPowI 0 (by decide)
 have c3 : W.cell? ⟨4, 0, none⟩ = _ := Lib.TabIs.cell hS gAsc 0 (by rw [Lib.asciiSpaceTab_length]; decide)
 exact ⟨⟨hT, World.block_lt_of_cell? W _ c2⟩, hS, World.block_lt_of_cell? W _ c3⟩
theorem door_met (os : Os) (args : Array Value) : laidMetH Tryz.prog laid1 ((World.doorLaid Tryz.prog 400 os).forCall (fun _ _ => 0) ⟨#[], args, []⟩).memory :=
 laidMetH_of_parts3 (fuel := 8) (laidMet_of_run' 8 (by kernel_rfl) (by kernel_rfl)) (by kernel_rfl) (by kernel_rfl)
end Go.Proofs.YtnpgpcnkdocknaaGreatDoor
