/- Texts merged: Pb6, Pb7, Bn4, OwnTw, Kq1, Kq2, Kq3. -/
import Derived.Test.YtnpgpcnkdocknaaGreatDoorGPb3
import Derived.Test.YtnpgpcnkdocknaaGreatDoorPb5
import Derived.Test.YtnpgpcnkdocknaaGreatDoorGAppZ
import Derived.Test.YtnpgpcnkdocknaaGreatDoorGPq2
import Derived.BigRegion
import Derived.Test.YtnpgpcnkdocknaaGreatDoorGPq4
namespace Go.Proofs.YtnpgpcnkdocknaaGreatDoor
open Go.RowKit
set_option linter.unusedVariables false
theorem usNone (W : World) (q : Option Addr) : (Builtin.unsafeString_ #[107, 3] 9 #[.pointer q, .int .i64 0]).run Tryz.prog W = .ok (.string .empty) W :=
 Lib.run_unsafeString_none W _ _ _ q
theorem cellsB : Tryz.prog.cellsOf 5 = 1 := by kernel_rfl
set_option maxHeartbeats 1000000 in
set_option maxRecDepth 100000 in
theorem str_some {base p : Nat} {w : World} {l : List UInt8} {a v : Value} {bad : Bool} (h : PrC base p w l v a bad) (h0 : l ≠ []) :
    Calls Tryz.prog 26 #[.pointer (some ⟨p, 0, none⟩)] w fun e w' => e = .returned (.string ⟨l.toArray⟩) ∧ Below base w w' := by
 have hl0 : l.length ≠ 0 := by simpa using h0
 have hown := h.ow
 obtain ⟨g, cap, cur, rfl, hbg, hg, hnc, hcm, hcs, htake⟩ : ∃ g cap cur, v = .slice (some ⟨g, 0, none⟩) l.length cap ∧ base ≤ g ∧ w.heap[g]? = some (.cells cur 5 (0, 0)) ∧ l.length ≤ cap ∧ cap ≤ maxLen ∧ cur.size = cap * 1 ∧ cur.toList.take (l.length * 1) = Lib.byteCells l := by
  rcases hown.2 with ⟨_, hz⟩ | ⟨g, cap, cur, hv, r⟩
  ·exact absurd hz hl0
  ·exact ⟨g, cap, cur, hv, r⟩
 have c1 : w.drew.cell? ⟨p, 1, none⟩ = some (.slice (some ⟨g, 0, none⟩) l.length cap) := h.c1
 have hSD : (Builtin.unsafeSliceData_ #[66] 107 #[.slice (some ⟨g, 0, none⟩) l.length cap]).run Tryz.prog w.drew = .ok (.pointer (some ⟨g, 0, none⟩)) w.drew :=
  Lib.run_unsafeSliceData_row _ _ _ _ _ _ (by omega)
 have hUS : (Builtin.unsafeString_ #[107, 3] 9 #[.pointer (some ⟨g, 0, none⟩), .int .i64 l.length]).run Tryz.prog w.drew = .ok (.string ⟨l.toArray⟩) (w.drew.freeze ⟨g, 0, none⟩ l.length) := by
  refine Lib.run_unsafeString_row w.drew 107 3 9 5 Tryz.underlying107 cellsB g cur.size (by have hg' : w.drew.heap[g]? = some (.cells cur 5 (0, 0)) := hg; simp [World.shape?, hg']) l h0 (by omega) (by unfold maxLen at hcm; omega) ?_
  intro j x hx
  have := hown.cells (g := g) rfl j (.int .u8 x.toNat) (by simp [Lib.byteCells, hx])
  exact this
 clear h hown
 go_enter Tryz.func26, Tryz.ntmps26
 go_wp2
 go_region
 all_goals (go_wp2; go_ret; exact ⟨rfl, Lib.below_freeze (Below.drew (Below.refl base w)) (p := ⟨g, 0, none⟩) hbg _⟩)
set_option maxHeartbeats 1000000 in
set_option maxRecDepth 100000 in
theorem str_nil {base p : Nat} {w : World} {a : Value} {bad : Bool} (h : PrC base p w [] (.slice none 0 0) a bad) :
    Calls Tryz.prog 26 #[.pointer (some ⟨p, 0, none⟩)] w fun e w' => e = .returned (.string ⟨#[]⟩) ∧ Below base w w' := by
 have hUS := usNone
 have c1 : w.drew.cell? ⟨p, 1, none⟩ = some (.slice none 0 0) := h.c1
 have hSD : (Builtin.unsafeSliceData_ #[66] 107 #[.slice none 0 0]).run Tryz.prog w.drew = .ok (.pointer none) w.drew := rfl
 clear h
 go_enter Tryz.func26, Tryz.ntmps26
 go_wp2
 go_region
 all_goals (go_wp2; go_ret; exact ⟨rfl, Below.drew (Below.refl base w)⟩)
set_option maxHeartbeats 1000000 in
set_option maxRecDepth 100000 in
theorem str_zero {base p g : Nat} {w : World} {a : Value} {bad : Bool} {cur : Array Value} (hb : base ≤ w.heap.size) (h : PrC base p w [] (.slice (some ⟨g, 0, none⟩) 0 0) a bad) (hg : w.heap[g]? = some (.cells cur 5 (0, 0))) :
    Calls Tryz.prog 26 #[.pointer (some ⟨p, 0, none⟩)] w fun e w' => e = .returned (.string ⟨#[]⟩) ∧ Below base w w' := by
 have hUS := usNone
 have hlt := h.lt
 have c1 : w.drew.cell? ⟨p, 1, none⟩ = some (.slice (some ⟨g, 0, none⟩) 0 0) := h.c1
 have hSD : (Builtin.unsafeSliceData_ #[66] 107 #[.slice (some ⟨g, 0, none⟩) 0 0]).run Tryz.prog w.drew = .ok (.pointer (some ⟨w.drew.heap.size, 0, none⟩)) (w.drew.alloc (.view ⟨g, 0, none⟩ 5)) :=
  Lib.run_unsafeSliceData_zero w.drew _ _ 5 Tryz.underlying107 ⟨g, 0, none⟩ 0 (5, cur.size) (by have hg' : w.drew.heap[g]? = some (.cells cur 5 (0, 0)) := hg; simp [World.shape?, hg'])
 have c2 : (w.drew.alloc (.view ⟨g, 0, none⟩ 5)).cell? ⟨p, 1, none⟩ = some (.slice (some ⟨g, 0, none⟩) 0 0) := by
  have : (w.drew.alloc (.view ⟨g, 0, none⟩ 5)).heap[p]? = _ := (Lib.alloc_old w.drew _ p hlt).trans h.hp
  rw [Lib.cell_of_heap this]; rfl
 have c3 : (w.alloc (.view ⟨g, 0, none⟩ 5)).drew.cell? ⟨p, 1, none⟩ = some (.slice (some ⟨g, 0, none⟩) 0 0) := c2
 have c0 : w.cell? ⟨p, 1, none⟩ = some (.slice (some ⟨g, 0, none⟩) 0 0) := c1
 clear h
 go_enter Tryz.func26, Tryz.ntmps26
 go_wp2
 go_region
 all_goals (go_wp2; go_ret; exact ⟨rfl, (Below.drew (Below.refl base w)).alloc hb _⟩)
set_option maxHeartbeats 1000000 in
set_option maxRecDepth 100000 in
theorem str_room {base p g cap : Nat} {w : World} {a : Value} {bad : Bool} (hc0 : cap ≠ 0) (h : PrC base p w [] (.slice (some ⟨g, 0, none⟩) 0 cap) a bad) :
    Calls Tryz.prog 26 #[.pointer (some ⟨p, 0, none⟩)] w fun e w' => e = .returned (.string ⟨#[]⟩) ∧ Below base w w' := by
 have hUS := usNone
 have c1 : w.drew.cell? ⟨p, 1, none⟩ = some (.slice (some ⟨g, 0, none⟩) 0 cap) := h.c1
 have hSD : (Builtin.unsafeSliceData_ #[66] 107 #[.slice (some ⟨g, 0, none⟩) 0 cap]).run Tryz.prog w.drew = .ok (.pointer (some ⟨g, 0, none⟩)) w.drew :=
  Lib.run_unsafeSliceData_row _ _ _ _ _ _ hc0
 clear hc0 h
 go_enter Tryz.func26, Tryz.ntmps26
 go_wp2
 go_region
 all_goals (go_wp2; go_ret; exact ⟨rfl, Below.drew (Below.refl base w)⟩)
theorem pstr_any {base p : Nat} {w : World} {l : List UInt8} {bad : Bool} (hb : base ≤ w.heap.size) (h : PrAt base p w l bad) :
    Calls Tryz.prog 26 #[.pointer (some ⟨p, 0, none⟩)] w fun e w' => e = .returned (.string ⟨l.toArray⟩) ∧ Below base w w' := by
 obtain ⟨v, a, ha, h⟩ := h
 by_cases h0 : l = []
 ·subst h0
  rcases h.ow.2 with ⟨rfl, _⟩ | ⟨g, cap, cur, rfl, hbg, hg, _, _, _, _⟩
  ·exact str_nil h
  ·by_cases hc0 : cap = 0
   ·subst hc0
    exact str_zero hb h hg
   ·exact str_room hc0 h
 ·exact str_some h h0
theorem wts_takeK (l : List St) {q : Nat} (hq : q < l.length) : St.wts (l.take q) + l[q].wt ≤ St.wts l := by
 induction l generalizing q with
 | nil => simp at hq
 | cons x r ih =>
  match q, hq with
  | 0, _ => simp [St.wts]
  | q + 1, hq =>
   have := ih (q := q) (by simpa using hq)
   simp only [List.take_succ_cons, St.wts, List.getElem_cons_succ]
   omega
theorem RdEx.toEK {w : World} {S : Blocks} {e : Ex} {k n : Int} {s : ByteArray} {v : Value} (h : RdEx w S e [.int .i64 k, .int .i64 n, .string s, v]) : RdE w S e (exV k n s v) := by
 obtain ⟨k', n', s', args⟩ := e
 obtain ⟨h1, h2, h3, v', he, h4⟩ := RdEx.open_ h
 simp only [List.cons.injEq, Value.int.injEq, Value.string.injEq, and_true, true_and] at he
 obtain ⟨rfl, rfl, rfl, rfl⟩ := he
 exact ⟨_, _, _, _, _, rfl, rfl, h1, h2, h3, h4⟩
set_option maxHeartbeats 4000000 in
set_option maxRecDepth 100000 in
theorem pstmts_one (l : List St) (h : ∀ k s a b body els, St.mk k s a b body els ∈ l → PxL body ∧ PxL els) : PxL l := by
 intro base p w S V acc bad hS hbs hp r hF hwt hlen
 obtain ⟨A, cap, rfl, hl, hcm, hby⟩ := r.form
 unfold maxLen at hcm
 have H := hid h
 have R := hid r
 have HS := hid hS
 have HP := hid hp
 have HF := hid hF
 clear h r hS hp hF
 go_enter Tryz.func25, Tryz.ntmps25
 go_wp2_with fail
 go_loopw [8] (fun t wr => ∃ q : Nat, q ≤ l.length ∧ t = .int .i64 q ∧ Hid (PrAt base p wr (putL acc (tkL false (l.take q)).1) (bad || !(tkL false (l.take q)).2)) ∧ Hid (PrGo base p w wr) ∧ tsz (tkL false (l.take q)).1 ≤ 64 * St.wts (l.take q)) (fun t _ => l.length - (intOf t).toNat)
 case atStart => exact ⟨0, by omega, rfl, hid (by rw [List.take_zero]; simpa [tkL, putL] using HP.out), hid (PrGo.refl _ _ _), by rw [List.take_zero]; simp [tkL, tsz]⟩
 case round =>
  clear HP
  obtain ⟨q, hq, rfl, HPq, HG, hts⟩ := hrel
  by_cases hlt : q < l.length
  ·have RW := R.out.go RdSt.keeps HG.out.be HS.out (Sub.refl _)
   obtain ⟨b0, off, cs, rfl, hb, hcl, hcell, hrd⟩ := RW.at_ hlt
   have hb : b0 < base := HS.out _ hb
   have hbr : base ≤ wr.heap.size := Nat.le_trans hbs HG.out.size
   have hb0 : b0 < wr.heap.size := by omega
   have hmem := List.getElem_mem hlt
   have hwq := wts_takeK l hlt
   have HT := hid (tkL_take false l hlt)
   obtain ⟨wn, hwn⟩ : ∃ wn, wn = St.wts (l.take (q + 1)) := ⟨_, rfl⟩
   have hwn1 : St.wts (l.take q) + l[q].wt ≤ wn := by
    have e : ∀ (m : List St) (x : St), St.wts (m ++ [x]) = St.wts m + x.wt := by
     intro m x
     induction m with
     | nil => simp [St.wts]
     | cons y m ih => simp only [List.cons_append, St.wts, ih]; omega
    rw [hwn, List.take_succ_eq_append_getElem hlt, e]
    omega
   have HWN := hid hwn
   clear hwn
   obtain ⟨st, hst⟩ : ∃ st, l[q] = st := ⟨_, rfl⟩
   rw [hst] at hrd hmem hwq HT hwn1
   obtain ⟨k, s, a, b, body, els⟩ := st
   obtain ⟨k1, n1, s1, A1, m1, p1, k2, n2, s2, A2, m2, p2, A3, p3, A4, p4, rfl, hk, hs, ra, rb, rv, rv'⟩ := hrd.cells
   have e0 : wr.cell? ⟨b0, off + q * 12, none⟩ = some _ := hcell 0 _ rfl
   have e1 : wr.cell? ⟨b0, off + q * 12 + 1, none⟩ = some _ := hcell 1 _ rfl; have e2 : wr.cell? ⟨b0, off + q * 12 + 2, none⟩ = some _ := hcell 2 _ rfl; have e3 : wr.cell? ⟨b0, off + q * 12 + 3, none⟩ = some _ := hcell 3 _ rfl; have e4 : wr.cell? ⟨b0, off + q * 12 + 4, none⟩ = some _ := hcell 4 _ rfl; have e5 : wr.cell? ⟨b0, off + q * 12 + 5, none⟩ = some _ := hcell 5 _ rfl; have e6 : wr.cell? ⟨b0, off + q * 12 + 6, none⟩ = some _ := hcell 6 _ rfl; have e7 : wr.cell? ⟨b0, off + q * 12 + 7, none⟩ = some _ := hcell 7 _ rfl; have e8 : wr.cell? ⟨b0, off + q * 12 + 8, none⟩ = some _ := hcell 8 _ rfl; have e9 : wr.cell? ⟨b0, off + q * 12 + 9, none⟩ = some _ := hcell 9 _ rfl; have e10 : wr.cell? ⟨b0, off + q * 12 + 10, none⟩ = some _ := hcell 10 _ rfl; have e11 : wr.cell? ⟨b0, off + q * 12 + 11, none⟩ = some _ := hcell 11 _ rfl
   have HIB := hid (H.out _ _ _ _ _ _ hmem)
   have rva : RdE wr S a (exV k1 n1 s1 (.slice A1 m1 p1)) := RdEx.toEK ra
   have rvb : RdE wr S b (exV k2 n2 s2 (.slice A2 m2 p2)) := RdEx.toEK rb
   have hbel : Below wr.heap.size wr (wr.alloc (.cells #[.int .i64 k, .string s, .int .i64 k1, .int .i64 n1, .string s1, .slice A1 m1 p1, .int .i64 k2, .int .i64 n2, .string s2, .slice A2 m2 p2, .slice A3 body.length p3, .slice A4 els.length p4] 82)) := (Below.refl _ _).alloc (Nat.le_refl _) _
   have hbe2 : Below base wr (wr.alloc (.cells #[.int .i64 k, .string s, .int .i64 k1, .int .i64 n1, .string s1, .slice A1 m1 p1, .int .i64 k2, .int .i64 n2, .string s2, .slice A2 m2 p2, .slice A3 body.length p3, .slice A4 els.length p4] 82)) := hbel.mono hbr
   have HC := hid (pstmt_any k s a b body els HIB.out.1 HIB.out.2 base p (wr.alloc (.cells #[.int .i64 k, .string s, .int .i64 k1, .int .i64 n1, .string s1, .slice A1 m1 p1, .int .i64 k2, .int .i64 n2, .string s2, .slice A2 m2 p2, .slice A3 body.length p3, .slice A4 els.length p4] 82)) S (putL acc (tkL false (l.take q)).1) (bad || !(tkL false (l.take q)).2) k1 n1 s1 A1 m1 p1 k2 n2 s2 A2 m2 p2 A3 p3 A4 p4 HS.out (Nat.le_trans hbr hbel.size) (HPq.out.below hbel) (rva.go hbe2 HS.out) (rvb.go hbe2 HS.out) (rv.go RdSt.keeps hbe2 HS.out (Sub.refl _)) (rv'.go RdSt.keeps hbe2 HS.out (Sub.refl _)) ((HF.out.go HG.out).next hbe2) (by omega) (by have := putL_len (tkL false (l.take q)).1 acc; omega))
   have GN := hid (HG.out.trans (PrGo.of_below (p := p) hbel hbr))
   clear HPq hbel hbe2 rva rvb rv rv' ra rb hrd hcell hmem RW HG hcl
   go_upto_region 3 with (fail)
   have hlz : wr.heap.size < ((wr.alloc (.cells #[.int .i64 k, .string s, .int .i64 k1, .int .i64 n1, .string s1, .slice A1 m1 p1, .int .i64 k2, .int .i64 n2, .string s2, .slice A2 m2 p2, .slice A3 body.length p3, .slice A4 els.length p4] 82))).heap.size := by simp
   have BX := BoxIs.made wr #[.int .i64 k, .string s, .int .i64 k1, .int .i64 n1, .string s1, .slice A1 m1 p1, .int .i64 k2, .int .i64 n2, .string s2, .slice A2 m2 p2, .slice A3 body.length p3, .slice A4 els.length p4] 82
   clear e0 e1 e2 e3 e4 e5 e6 e7 e8 e9 e10 e11
   generalize (wr.alloc (.cells #[.int .i64 k, .string s, .int .i64 k1, .int .i64 n1, .string s1, .slice A1 m1 p1, .int .i64 k2, .int .i64 n2, .string s2, .slice A2 m2 p2, .slice A3 body.length p3, .slice A4 els.length p4] 82)) = W at *
   generalize wr.heap.size = d at *
   have e0 := BX.cell 0; have e1 := BX.cell 1; have e2 := BX.cell 2; have e3 := BX.cell 3; have e4 := BX.cell 4; have e5 := BX.cell 5; have e6 := BX.cell 6; have e7 := BX.cell 7; have e8 := BX.cell 8; have e9 := BX.cell 9; have e10 := BX.cell 10; have e11 := BX.cell 11
   go_wp2_with (go_at_call 46; refine HC.out.mono ?_)
   rintro e w1 ⟨⟨x1, rfl⟩, h1, g1, l1⟩
   have H1 := hid h1
   have G1 := hid (GN.out.trans g1)
   have L1 := hid l1
   clear h1 g1 l1 HC GN e0 e1 e2 e3 e4 e5 e6 e7 e8 e9 e10 e11 BX
   go_wp2_with fail
   go_roundw
   case rel => exact ⟨q + 1, by omega, by go_num, hid (by rw [HT.out]; show PrAt base p w1 (putL acc ((tkL false (l.take q)).1 ++ (tkS false (.mk k s a b body els)).1)) (bad || !((tkL false (l.take q)).2 && (tkS false (.mk k s a b body els)).2)); rw [putL_app, Bool.not_and, ← Bool.or_assoc]; exact H1.out), hid G1.out, by rw [HT.out]; show tsz ((tkL false (l.take q)).1 ++ (tkS false (.mk k s a b body els)).1) ≤ _; rw [tsz_app, ← HWN.out]; have := L1.out; omega⟩
   case measure => simp [intOf]; omega
  ·have hql : q = l.length := by omega
   subst hql
   rw [List.take_of_length_le (Nat.le_refl _)] at HPq hts
   go_wp2
   go_end0
   exact ⟨⟨_, rfl⟩, HPq.out, HG.out, hts⟩
theorem pstmts_any (l : List St) : PxL l := St.indL pstmts_one l
def printS (l : List St) : Str := if (tkL false l).2 then ⟨(putL [] (tkL false l).1).toArray⟩ else ⟨#[]⟩
def printE (l : List St) : Int := if (tkL false l).2 then 0 else 1
set_option maxHeartbeats 2000000 in
set_option maxRecDepth 100000 in
theorem print_any (l : List St) (w : World) (S : Blocks) (V : Value) (hS : Sub S (Upto w.heap.size)) (r : RdSts w S l V) (hF : FmtT w) (hwt : St.wts l ≤ 67108864) :
    Calls Tryz.prog 12 #[V] w fun e w' => e = .returned (.tuple #[.string (printS l), .int .i64 (printE l)]) ∧ Below w.heap.size w w' := by
 have hbl : Below w.heap.size w (w.alloc (.cells #[.pointer none, .slice none 0 0, .bool false] 70)) := (Below.refl _ _).alloc (Nat.le_refl _) _
 have hP : PrAt w.heap.size w.heap.size (w.alloc (.cells #[.pointer none, .slice none 0 0, .bool false] 70)) [] false :=
  ⟨.slice none 0 0, .pointer none, .inl rfl, ⟨Nat.le_refl _, heap_new_ w _, ⟨by simp [Lib.byteCells], .inl ⟨rfl, rfl⟩⟩, by simp [Value.ownBlock]⟩⟩
 have HR := hid (r.go RdSt.keeps hbl hS (Sub.refl _))
 have HF : Hid (FmtB w.heap.size _) := hid (⟨hF.go hbl, hF.pow.lt, hF.lt⟩ : FmtB w.heap.size (w.alloc (.cells #[.pointer none, .slice none 0 0, .bool false] 70)))
 have HC := hid (pstmts_any l w.heap.size w.heap.size _ S V [] false hS hbl.size hP HR.out HF.out hwt (by simp; omega))
 have GB := hid hbl
 clear hP HR HF hbl r hF hS
 obtain ⟨ok, hok⟩ : ∃ ok, ok = (tkL false l).2 := ⟨_, rfl⟩
 have HOK := hid hok
 clear hok
 go_enter Tryz.func12, Tryz.ntmps12
 go_upto_region 2 with (fail)
 generalize (w.alloc (.cells #[.pointer none, .slice none 0 0, .bool false] 70)) = W at *
 have HSZ := GB.out.size
 generalize hd : w.heap.size = d at *
 have HD := hid hd
 clear hd
 go_wp2_with (go_at_call 25; refine HC.out.mono ?_)
 rintro e w1 ⟨⟨x1, rfl⟩, h1, g1, l1⟩
 have h1 : PrAt d d w1 (putL [] (tkL false l).1) (!ok) := by rw [HOK.out]; simpa using h1
 have c2 : w1.cell? ⟨d, 2, none⟩ = some (.bool (!ok)) := by obtain ⟨v, a, _, h1⟩ := h1; exact h1.c2
 have H1 := hid h1
 have G1 := hid (GB.out.trans g1.be)
 have hsz := Nat.le_trans HSZ g1.size
 clear h1 g1 HC GB
 cases ok
 ·have E1 := hid (show printS l = ⟨#[]⟩ by unfold printS; rw [← HOK.out]; rfl)
  have E2 := hid (show printE l = 1 by unfold printE; rw [← HOK.out]; rfl)
  go_wp2
  go_ret2
  exact ⟨by rw [E1.out, E2.out]; rfl, by rw [HD.out]; exact G1.out⟩
 ·have E1 := hid (show printS l = ⟨(putL [] (tkL false l).1).toArray⟩ by unfold printS; rw [← HOK.out]; rfl)
  have E2 := hid (show printE l = 0 by unfold printE; rw [← HOK.out]; rfl)
  go_wp2_with (go_at_call 26; refine (pstr_any hsz H1.out).mono ?_)
  rintro e w2 ⟨rfl, b2⟩
  have G2 := hid (G1.out.trans b2)
  clear b2
  go_wp2
  go_ret2
  exact ⟨by rw [E1.out, E2.out]; rfl, by rw [HD.out]; exact G2.out⟩
def canT (Z : List St × Int × Int) : Str × Int := if Z.2.2 = 0 then (printS (renL Z.1 [] 0).1, printE (renL Z.1 [] 0).1) else (⟨#[]⟩, Z.2.2)
set_option maxHeartbeats 2000000 in
set_option maxRecDepth 100000 in
theorem canon_any (s : ByteArray) (hs : s.size ≤ 1048576) (w : World) (hF : FmtT w) :
    Calls Tryz.prog 4 #[.string s] w fun e w' => e = .returned (.tuple #[.string (canT (parG s.data.toList)).1, .int .i64 (canT (parG s.data.toList)).2]) ∧ Below w.heap.size w w' := by
 have HA := hid (parse_any s hs w)
 have HF := hid hF
 have HW := hid (parG_small (l := s.data.toList) (by have := data_len s; omega))
 clear hF
 generalize parG s.data.toList = Z at HA HW
 obtain ⟨l, n, er⟩ := Z
 unfold ParOut at HA
 simp only at HA HW
 go_enter Tryz.func4, Tryz.ntmps4
 go_wp2_with (go_at_call 11; refine HA.out.mono ?_)
 rintro e w1 ⟨x, rfl, hx, hb1⟩
 have F1 := hid (HF.out.go hb1)
 have X1 := hid (RdL.sub hx RdSt.keeps (Sub.plus_to (Sub.nowhere (Upto w1.heap.size)) (Nat.le_refl _) (Nat.le_refl _)))
 have B1 := hb1
 have hz1 := hb1.size
 clear hx HA
 by_cases her : er = 0
 ·subst her
  have HR := hid (ren_any l w1 _ x (Sub.refl _) X1.out HW.out.1 F1.out.pow)
  go_wp2_with (go_at_call 13; refine HR.out.mono ?_)
  rintro e w2 ⟨y, rfl, hy, hb2⟩
  have HP := hid (print_any (renL l [] 0).1 w2 _ y (Sub.refl _) (RdL.sub hy RdSt.keeps (Sub.plus_to (Sub.nowhere (Upto w2.heap.size)) (Nat.le_refl _) (Nat.le_refl _))) (F1.out.go hb2) HW.out.2)
  have B2 := B1.trans (hb2.mono hz1)
  have hz2 := B2.size
  clear hy hb2 HR
  go_wp2_with (go_at_call 12; refine HP.out.mono ?_; rintro e w3 ⟨rfl, hb3⟩; have B3 := B2.trans (hb3.mono hz2))
  go_ret2
  exact ⟨rfl, B3⟩
 ·have hne : (er != 0) = true := by simpa using her
  have HC := hid (show canT (l, n, er) = (⟨#[]⟩, er) from if_neg her)
  go_wp2_with fail
  go_ret2
  rw [HC.out]
  exact ⟨rfl, B1⟩
abbrev OwnT (w : World) (base : Nat) (l : List Str) (v : Value) : Prop := OwnSs 9 w base Nowhere l v
theorem OwnT.lit1 {w : World} {base : Nat} (s : Str) (hs : okS s) (hb : base ≤ w.heap.size) : OwnT (w.alloc (.cells #[.string s] 9)) base [s] (.slice (some ⟨w.heap.size, 0, none⟩) 1 1) :=
 ⟨Nowhere, [encS s], Sub.refl _, Sub.nowhere _, not_nowhere, rfl, by simp [encS], ⟨by simp [encS], .inr ⟨w.heap.size, 1, (encS s).toArray, rfl, hb, by
  show (w.alloc (.cells (encS s).toArray 9)).heap[w.heap.size]? = _
  show (w.heap.push _)[w.heap.size]? = _
  simp, Nat.le_refl _, by simp [maxLen], by simp [encS], by simp [encS]⟩⟩, fun i e cs hi hc => by
  match i, hi, hc with
  | 0, hi, hc => simp at hi hc; subst hi hc; exact ⟨rfl, hs⟩⟩
theorem OwnT.rebase {w : World} {base base' : Nat} {l : List Str} {v : Value} (h : OwnT w base l v) (hb : base' ≤ base) : OwnT w base' l v := by
 obtain ⟨T, css, t1, t2, t3, h1, h2, h3, h4⟩ := h
 refine ⟨T, css, t1, t2, t3, h1, h2, ⟨h3.1, ?_⟩, h4⟩
 rcases h3.2 with h | ⟨g, cap, cur, e, hbg, r⟩
 ·exact .inl h
 ·exact .inr ⟨g, cap, cur, e, Nat.le_trans hb hbg, r⟩
theorem OwnT.rd {w : World} {base : Nat} {l : List Str} {v : Value} (h : OwnT w base l v) (hb : l.length * 16 ≤ 140737488355328) : RdSs w (fun b => base ≤ b ∧ b < w.heap.size) l v :=
 h.toRd Flat.keeps hb (Sub.nowhere _) (fun b h1 h2 => ⟨h1, h2⟩)
theorem rd_lit {w : World} (s : Str) (hs : okS s) : RdSs (w.alloc (.cells #[.string s] 9)) (fun _ => True) [s] (.slice (some ⟨w.heap.size, 0, none⟩) 1 1) :=
 rd_one (enc := encS) (x := s) rfl (cells_newAt w [.string s] 9 rfl) hs trivial (by decide)
theorem own_set1 {w : World} {base g n cap : Nat} {l : List Str} (h : OwnT w base l (.slice (some ⟨g, 0, none⟩) n cap)) {q : Nat} (hq : q < l.length) (x : Str) (hx : okS x) : OwnT (w.setCell ⟨g, q, none⟩ (.string x)) base (l.set q x) (.slice (some ⟨g, 0, none⟩) n cap) :=
 OwnL.set1 (f := fun (x : Str) => Value.string x) (ok := okS) h hq x hx
def RkAt (k : Nat) (L : List LTok) (w : World) (f : Nat) : Prop := ∃ v, Blk 0 w k [v, .int .i64 (f : Int)] ∧ RdToks w (Upto k) L v ∧ (∀ t ∈ L, tokOk t) ∧ L.length ≤ 1048576 ∧ f ≤ L.length
section
variable {k f : Nat} {L : List LTok} {w w' : World}
theorem RkAt.lt (h : RkAt k L w f) : k < w.heap.size := by obtain ⟨v, h, _⟩ := h; exact h.lt
theorem RkAt.below (h : RkAt k L w f) (hb : Below w.heap.size w w') : RkAt k L w' f := by
 have hlt := h.lt
 obtain ⟨v, h, r, o⟩ := h
 exact ⟨v, h.below hb, r.go Flat.keeps (hb.mono (Nat.le_of_lt hlt)) (Sub.refl _) (Sub.refl _), o⟩
theorem RkAt.but {z : Nat} (h : RkAt k L w f) (hb : But (Is z) w w') (hz : k < z) : RkAt k L w' f := by
 have hlt := h.lt
 obtain ⟨v, h, r, o⟩ := h
 exact ⟨v, h.but hb (fun e => by unfold Is at e; omega), r.keep Flat.keeps (Sub.refl _) (hb.same (fun j hj => Nat.lt_trans hj hlt) (fun j hj e => by unfold Is at e; unfold Upto at hj; omega)), o⟩
theorem RkAt.len (h : RkAt k L w f) : L.length ≤ 1048576 ∧ f ≤ L.length := by obtain ⟨v, _, _, _, h1, h2⟩ := h; exact ⟨h1, h2⟩
theorem RkAt.toks (h : RkAt k L w f) : ∀ t ∈ L, tokOk t := by obtain ⟨v, _, _, h, _⟩ := h; exact h
theorem RkAt.open_ (h : RkAt k L w f) : ∃ A cap, w.cell? ⟨k, 0, none⟩ = some (.slice A L.length cap) ∧ w.cell? ⟨k, 1, none⟩ = some (.int .i64 (f : Int)) ∧ w.frozen? ⟨k, 1, none⟩ = false ∧
    (∀ g, g ≤ L.length → RkAt k L (w.setCell ⟨k, 1, none⟩ (.int .i64 (g : Int))) g) := by
 obtain ⟨v, h, r, o⟩ := h
 obtain ⟨A, cap, rfl, h1, h2, _⟩ := r.form
 exact ⟨A, cap, h.cell 0 _ rfl, h.cell 1 _ rfl, h.fr 1, fun g hg => ⟨_, h.set (i := 1) (by simp) _, r.stored Flat.keeps (fun hk => Nat.lt_irrefl _ hk) _, o.1, o.2.1, hg⟩⟩
theorem RkAt.tok (h : RkAt k L w f) {a : Nat} {t : LTok} {r : List LTok} (hd : L.drop a = t :: r) : ∃ b off cap, w.cell? ⟨k, 0, none⟩ = some (.slice (some ⟨b, off, none⟩) L.length cap) ∧ a < L.length ∧ b < k ∧ okT t ∧ L.drop (a + 1) = r ∧
    w.cell? ⟨b, off + a * 3, none⟩ = some (.int .i64 t.kind) ∧ w.cell? ⟨b, off + a * 3 + 1, none⟩ = some (.int .i64 t.pos) ∧ w.cell? ⟨b, off + a * 3 + 2, none⟩ = some (.string t.str) := by
 have hlt : a < L.length := by
  rcases Nat.lt_or_ge a L.length with h' | h'
  ·exact h'
  ·rw [List.drop_eq_nil_of_le h'] at hd; cases hd
 rw [List.drop_eq_getElem_cons hlt] at hd
 injection hd with h1 h2
 obtain ⟨v, h, rr, o⟩ := h
 obtain ⟨A, cap, rfl, _⟩ := rr.form
 obtain ⟨b, off, rfl, hb, hok, hc⟩ := RdL.flat rr (q := a) hlt
 rw [h1] at hok hc
 refine ⟨b, off, cap, h.cell 0 _ rfl, hlt, hb, hok, h2, ?_, ?_, ?_⟩
 ·have := hc 0 _ rfl; simpa using this
 ·have := hc 1 _ rfl; simpa [Nat.add_assoc] using this
 ·have := hc 2 _ rfl; simpa [Nat.add_assoc] using this
end
theorem drop_end {L : List LTok} {a : Nat} (ha : a ≤ L.length) (h : L.drop a = []) : a = L.length := by
 rcases Nat.lt_or_ge a L.length with h' | h'
 ·rw [List.drop_eq_getElem_cons h'] at h; cases h
 ·omega
set_option maxHeartbeats 1000000 in
set_option maxRecDepth 100000 in
theorem kword_any {k f : Nat} {L : List LTok} {w : World} (h : RkAt k L w f) (a : Nat) (ha : a ≤ L.length) (hf : f ≤ a) (s : Str) :
    Calls Tryz.prog 52 #[.pointer (some ⟨k, 0, none⟩), .int .i64 (a : Int), .string s] w fun e w' => e = .returned (.bool (isT s (L.drop a))) ∧ RkAt k L w' a ∧ But (Is k) w w' := by
 have hll := h.len.1
 obtain ⟨A, cap, c0, c1, f1, hset⟩ := h.open_
 have HS := hid (hset a ha)
 have HB := hid ((But.refl (Is k) w).setCell (p := ⟨k, 1, none⟩) (show Is k k from rfl) (.int .i64 (a : Int)))
 have hmax : max (f : Int) (a : Int) = (a : Int) := by omega
 cases hd : L.drop a with
 | nil =>
  have hae := drop_end ha hd
  have hge : ¬ (a : Int) < (L.length : Int) := by omega
  clear h hset hd hae
  go_enter Tryz.func52, Tryz.ntmps52
  go_wp2
  go_ret
  exact ⟨rfl, HS.out, HB.out⟩
 | cons t r =>
  obtain ⟨b, off, cap2, k9, hlt, hbk, hok, hr, k0, k1, k2⟩ := h.tok hd
  have hlt' : (a : Int) < (L.length : Int) := by omega
  have HI := hid (show isT s (t :: r) = (t.str.toList == s.toList) from rfl)
  rw [c0] at k9
  injection k9 with k9
  injection k9 with e1 e2 e3
  subst e1
  have hbk2 : ¬ b = k := by omega
  generalize t.str = y at *
  clear h hset hd hr e2 e3
  go_enter Tryz.func52, Tryz.ntmps52
  go_wp2
  go_ret
  exact ⟨by rw [HI.out]; rfl, HS.out, HB.out⟩
def KwOut (k : Nat) (L : List LTok) (w : World) (o : PR Unit) (e : Ending) (w' : World) : Prop :=
 match o with
 | .ok _ r => ∃ b f : Nat, e = .returned (.tuple #[.int .i64 (b : Int), .bool true]) ∧ L.drop b = r ∧ b ≤ L.length ∧ f ≤ b ∧ RkAt k L w' f ∧ But (Is k) w w'
 | .no r => ∃ (z : Int) (f : Nat), e = .returned (.tuple #[.int .i64 z, .bool false]) ∧ L.drop f = r ∧ RkAt k L w' f ∧ But (Is k) w w'
set_option maxHeartbeats 1000000 in
set_option maxRecDepth 100000 in
theorem kwords_any {k f : Nat} {L : List LTok} {w : World} {l : List Str} {v : Value} (h : RkAt k L w f) (a : Nat) (ha : a ≤ L.length) (hf : f ≤ a) (r : WordsAt k w l v) :
    Calls Tryz.prog 84 #[.pointer (some ⟨k, 0, none⟩), .int .i64 (a : Int), v] w (KwOut k L w (wantG l (L.drop a))) := by
 have hll := h.len.1
 have hfm : ∃ A cap, v = .slice A l.length cap ∧ l.length ≤ 9223372036854775807 := by
  obtain ⟨S, hS, r⟩ := r
  obtain ⟨A, cap, rfl, h1, h2, _⟩ := r.form
  unfold maxLen at h2
  exact ⟨A, cap, rfl, by omega⟩
 obtain ⟨A, cap, rfl, hl⟩ := hfm
 have R := hid r
 have H := hid h
 obtain ⟨Z, hZ⟩ : ∃ Z, Z = wantG l (L.drop a) := ⟨_, rfl⟩
 rw [← hZ]
 have HZ := hid hZ
 clear r h hZ
 go_enter Tryz.func84, Tryz.ntmps84
 go_wp2
 go_loopw [1, 12] (fun u t wr => ∃ (j b f : Nat), j ≤ l.length ∧ u = .int .i64 (b : Int) ∧ t = .int .i64 (j : Int) ∧ b ≤ L.length ∧ f ≤ b ∧ Hid (Z = wantG (l.drop j) (L.drop b)) ∧ Hid (RkAt k L wr f) ∧ Hid (But (Is k) w wr)) (fun _ t _ => l.length - (intOf t).toNat)
 case atStart => exact ⟨0, a, f, by omega, rfl, rfl, ha, hf, HZ, H, hid (But.refl _ _)⟩
 case round =>
  obtain ⟨j, b, g, hj, rfl, rfl, hb, hg, HK, HP, HB⟩ := hrel
  clear H HZ
  by_cases hlt : j < l.length
  ·obtain ⟨S, hS, r⟩ := R.out.go HB.out
   obtain ⟨b0, off, rfl, hb0, hok, hc⟩ := r.at1 hlt
   have HD := hid (show l.drop j = l[j] :: l.drop (j + 1) from List.drop_eq_getElem_cons hlt)
   generalize l[j] = x at hc hok HD
   have HI := hid (kword_any HP.out b hb hg x)
   clear r hS hb0
   cases hx : isT x (L.drop b)
   ·have HK2 := hid (show Z = .no (L.drop b) by rw [HK.out, HD.out, wantG, if_neg (by rw [hx]; simp)])
    rw [hx] at HI
    clear HK HD hx
    go_wp2_with (go_at_call 52; refine HI.out.mono ?_; rintro e w1 ⟨rfl, h1, hb1⟩)
    go_ret2
    rw [HK2.out]
    exact ⟨_, b, rfl, rfl, h1, HB.out.trans hb1⟩
   ·obtain ⟨t, q2, hd, _⟩ := isT_true hx
    obtain ⟨_, _, _, _, hbl, _, _, hdr, _⟩ := HP.out.tok hd
    have HK2 := hid (show Z = wantG (l.drop (j + 1)) (L.drop (b + 1)) by rw [HK.out, HD.out, wantG, if_pos hx, hd, hdr]; rfl)
    rw [hx] at HI
    clear HK HD hx hd hdr
    go_wp2_with (go_at_call 52; refine HI.out.mono ?_; rintro e w1 ⟨rfl, h1, hb1⟩)
    go_roundw
    case rel => exact ⟨j + 1, b + 1, b, by omega, by go_num, by go_num, by omega, by omega, HK2, hid h1, hid (HB.out.trans hb1)⟩
    case measure => simp [intOf]; omega
  ·have hkl : j = l.length := by omega
   subst hkl
   have HK2 := hid (show Z = .ok () (L.drop b) by rw [HK.out, List.drop_length]; rfl)
   go_wp2_with fail
   go_ret2
   rw [HK2.out]
   exact ⟨b, g, rfl, rfl, hb, hg, HP.out, HB.out⟩
def KqOut {α : Type} (k : Nat) (L : List LTok) (w : World) (rd : World → α → Value → Prop) (o : PR α) (e : Ending) (w' : World) : Prop :=
 match o with
 | .ok x r => ∃ (V : Value) (b f : Nat), e = .returned (.tuple #[V, .int .i64 (b : Int), .bool true]) ∧ rd w' x V ∧ L.drop b = r ∧ b ≤ L.length ∧ f ≤ b ∧ RkAt k L w' f ∧ But (Is k) w w'
 | .no r => ∃ (V : Value) (z : Int) (f : Nat), e = .returned (.tuple #[V, .int .i64 z, .bool false]) ∧ (∃ x, rd w' x V) ∧ L.drop f = r ∧ RkAt k L w' f ∧ But (Is k) w w'
def strS (_ : World) (s : Str) (x : Value) : Prop := x = .string s ∧ s.size ≤ 1048576
set_option maxHeartbeats 1000000 in
set_option maxRecDepth 100000 in
theorem krname_any {k f : Nat} {L : List LTok} {w : World} (h : RkAt k L w f) (a : Nat) (ha : a ≤ L.length) (hf : f ≤ a) :
    Calls Tryz.prog 82 #[.pointer (some ⟨k, 0, none⟩), .int .i64 (a : Int)] w (KqOut k L w strS (nameG (L.drop a))) := by
 have hll := h.len.1
 have htk := h.toks
 obtain ⟨A, cap, c0, c1, f1, hset⟩ := h.open_
 have HS := hid (hset a ha)
 have HB := hid ((But.refl (Is k) w).setCell (p := ⟨k, 1, none⟩) (show Is k k from rfl) (.int .i64 (a : Int)))
 have hmax : max (f : Int) (a : Int) = (a : Int) := by omega
 cases hd : L.drop a with
 | nil =>
  have hae := drop_end ha hd
  have hge : ¬ (a : Int) < (L.length : Int) := by omega
  have HD := hid hd
  clear h hset hd hae htk
  go_enter Tryz.func82, Tryz.ntmps82
  go_wp2
  go_ret3
  exact ⟨_, _, a, rfl, ⟨⟨#[]⟩, rfl, by decide⟩, HD.out, HS.out, HB.out⟩
 | cons t r =>
  obtain ⟨b, off, cap2, k9, hlt, hbk, hok, hr, k0, k1, k2⟩ := h.tok hd
  have hlt' : (a : Int) < (L.length : Int) := by omega
  have htt := htk t (by have : t ∈ L.drop a := by rw [hd]; exact List.mem_cons_self ..
                        exact List.mem_of_mem_drop this)
  rw [c0] at k9
  injection k9 with k9
  injection k9 with e1 e2 e3
  subst e1
  have hbk2 : ¬ b = k := by omega
  have hkw := h.lt
  have hbw : b < w.heap.size := by omega
  have HD := hid hd
  have HR := hid hr
  have HSZ := hid htt.2
  obtain ⟨Z, hZ⟩ : ∃ Z, Z = nameG (t :: r) := ⟨_, rfl⟩
  rw [← hZ]
  by_cases hk : t.kind = 2
  ·have hkn := htt.1.name hk
   have hk2 : (t.kind == 2) = true := by simpa using hk
   have hsz : t.str.size ≤ 1048576 := htt.2
   have HNM := hid (fun W => kname_any t.str (by omega) W)
   have HT1 := hid (fun w1 (hb1 : Below (w.setCell ⟨k, 1, none⟩ (.int .i64 (a : Int))).heap.size (w.setCell ⟨k, 1, none⟩ (.int .i64 (a : Int))) w1) => show w1.cell? ⟨k, 0, none⟩ = some (.slice (some ⟨b, off, none⟩) L.length cap) ∧ w1.cell? ⟨b, off + a * 3 + 2, none⟩ = some (.string t.str) from by
    refine ⟨(hb1.cell (p := ⟨k, 0, none⟩) (by rw [size_setCell]; exact hkw)).trans ?_, (hb1.cell (p := ⟨b, off + a * 3 + 2, none⟩) (by rw [size_setCell]; exact hbw)).trans ?_⟩
    ·rw [World.cell?_setCell_other _ _ _ _ (by simp)]; exact c0
    ·rw [World.cell?_setCell_other _ _ _ _ (by simp)]; exact k2)
   cases hx : keptB t.str
   ·have HZ := hid (show Z = .ok t.str r by rw [hZ, nameG, if_pos ⟨hk, hx⟩])
    rw [hkn, hx] at HNM
    clear h hset hd hr e2 e3 htk htt hkn hx hZ hk
    generalize t.str = y at *
    go_enter Tryz.func82, Tryz.ntmps82
    go_wp2_with (go_at_call 55; refine (HNM.out _).mono ?_; rintro e w1 ⟨rfl, hb1⟩; obtain ⟨g0, g2⟩ := HT1.out w1 hb1)
    go_ret3
    rw [HZ.out]
    exact ⟨_, a + 1, a, rfl, ⟨rfl, hsz⟩, HR.out, by omega, by omega, HS.out.below hb1, HB.out.trans (But.of_b hb1)⟩
   ·have HZ := hid (show Z = .no (t :: r) by rw [hZ, nameG, if_neg (by rw [hx]; simp)])
    rw [hkn, hx] at HNM
    clear h hset hd hr e2 e3 htk htt hkn hx hZ hk
    generalize t.str = y at *
    go_enter Tryz.func82, Tryz.ntmps82
    go_wp2_with (go_at_call 55; refine (HNM.out _).mono ?_; rintro e w1 ⟨rfl, hb1⟩)
    go_ret3
    rw [HZ.out]
    exact ⟨_, _, a, rfl, ⟨⟨#[]⟩, rfl, by decide⟩, HD.out, HS.out.below hb1, HB.out.trans (But.of_b hb1)⟩
  ·have hk2 : (t.kind == 2) = false := by simpa using hk
   have HZ := hid (show Z = .no (t :: r) by rw [hZ, nameG, if_neg (by intro h; exact hk h.1)])
   clear h hset hd hr e2 e3 htk htt hZ hk
   go_enter Tryz.func82, Tryz.ntmps82
   go_wp2
   go_ret3
   rw [HZ.out]
   exact ⟨_, _, a, rfl, ⟨⟨#[]⟩, rfl, by decide⟩, HD.out, HS.out, HB.out⟩
def splitQ (s : Str) : Nat → List Str × Str
 | 0 => ([], ⟨#[]⟩)
 | q + 1 => if s.data.toList[q]? = some 44 then ((splitQ s q).1 ++ [(splitQ s q).2], ⟨#[]⟩) else ((splitQ s q).1, (splitQ s q).2 ++ s.extract q (q + 1))
def splitF (s : Str) : List Str := (splitQ s s.size).1 ++ [(splitQ s s.size).2]
set_option maxHeartbeats 2000000 in
set_option maxRecDepth 100000 in
theorem ksplit_any (s : Str) (hs : s.size ≤ 1000) (w : World) :
    Calls Tryz.prog 121 #[.string s] w fun e w' => ∃ x, e = .returned x ∧ OwnT w' w.heap.size (splitF s) x ∧ Below w.heap.size w w' := by
 obtain ⟨i0, hi, hz0, hz1, hz2⟩ := info_parts infoStr
 have HLN := hid (show s.data.toList.length = s.size from Array.length_toList)
 have HL0 := hid (show OwnT (w.alloc (.cells #[.string ⟨#[]⟩] 9)) w.heap.size [⟨#[]⟩] (.slice (some ⟨w.heap.size, 0, none⟩) 1 1) from OwnT.lit1 ⟨#[]⟩ (by unfold okS; decide) (Nat.le_refl _))
 have hb0 : Below w.heap.size w (w.alloc (.cells #[.string ⟨#[]⟩] 9)) := (Below.refl _ _).alloc (Nat.le_refl _) _
 go_enter Tryz.func121, Tryz.ntmps121
 go_wp2_with fail
 generalize (w.alloc (.cells #[.string ⟨#[]⟩] 9)) = W at *
 go_loopw [3, 8] (fun o u wr => ∃ (i : Nat) (out : List Str) (y : Str), u = .int .i64 (i : Int) ∧ i ≤ s.size ∧ out.length ≤ i ∧ y.size ≤ i ∧ Hid (splitQ s i = (out, y)) ∧ Hid (OwnT wr w.heap.size (out ++ [y]) o) ∧ Below w.heap.size w wr) (fun _ u _ => s.size - (intOf u).toNat)
 case atStart => exact ⟨0, [], ⟨#[]⟩, rfl, Nat.zero_le _, Nat.le_refl _, Nat.le_refl _, hid rfl, HL0, hb0⟩
 case round =>
  clear HL0 hb0
  obtain ⟨i, out, y, rfl, hi1, hol, hyl, HQ, HO, hb⟩ := hrel
  have hsz := hb.size
  by_cases hlt : i < s.size
  ·have HG := hid (show s.data.toList[i]? = some (s[i]'hlt) by
     rw [List.getElem?_eq_getElem (by rw [HLN.out]; exact hlt), Array.getElem_toList]; rfl)
   by_cases h32 : s[i]'hlt = 44
   ·have HQ2 := hid (show splitQ s (i + 1) = (out ++ [y], ⟨#[]⟩) by rw [splitQ, HG.out, h32, if_pos rfl, HQ.out])
    have bl : Below wr.heap.size wr (wr.alloc (.cells #[.string ⟨#[]⟩] 9)) := (Below.refl _ _).alloc (Nat.le_refl _) _
    have O1 := hid (show OwnT (wr.alloc (.cells #[.string ⟨#[]⟩] 9)) w.heap.size (out ++ [y]) _ from HO.out.keep Flat.keeps bl)
    have R1 := hid (show RdSs (wr.alloc (.cells #[.string ⟨#[]⟩] 9)) (fun _ => True) [⟨#[]⟩] (.slice (some ⟨wr.heap.size, 0, none⟩) 1 1) from rd_lit ⟨#[]⟩ (by unfold okS; decide))
    have B1 := hid (hb.trans (bl.mono hsz))
    have hz1' := B1.out.size
    have h32' : ((s[i]'hlt).toNat : Int) = 44 := by rw [h32]; rfl
    clear bl HO hb h32
    go_wp2_with (at_builtin; generalize (wr.alloc (.cells #[.string ⟨#[]⟩] 9)) = W2 at *; refine wpList_append_list rfl _ _ 37 rfl i0 _ Tryz.underlying37 hi hz0 hz1 hz2 rfl (by decide) Flat.keeps O1.out (R1.out.bare Nowhere) rfl rfl (Sub.nowhere _) (Sub.nowhere _) not_nowhere oneS ?c3 ?c4 ?c5 ?_)
    case c3 => simp only [List.length_append, List.length_cons, List.length_nil]; unfold maxLen; omega
    case c4 => simp only [List.length_append, List.length_cons, List.length_nil]; omega
    try (case c5 => exact hz1')
    intro v2 w2 ho hg hk2
    have HO2 := hid (show OwnT w2 w.heap.size ((out ++ [y]) ++ [⟨#[]⟩]) v2 from by first | exact ho | (rw [List.append_assoc]; exact ho))
    have HB2 := B1.out.grown hg hz1' (fun g hg => (O1.out.lt g hg).1)
    clear ho hg hk2 O1 B1 R1
    go_wp2_with fail
    go_roundw
    case rel => exact ⟨i + 1, out ++ [y], ⟨#[]⟩, by go_num, by omega, by simp only [List.length_append, List.length_cons, List.length_nil]; omega, Nat.zero_le _, HQ2, HO2, HB2⟩
    case measure => simp [intOf]; omega
   ·have HQ2 := hid (show splitQ s (i + 1) = (out, y ++ s.extract i (i + 1)) by rw [splitQ, HG.out, if_neg (fun e => h32 (Option.some.inj e)), HQ.out])
    have hne : 0 < (out ++ [y]).length := by simp
    obtain ⟨g, cap, rfl, hgb, hgl, hcl, hcm, hfr, hat⟩ := OwnL.flat HO.out hne
    have hql : out.length < (out ++ [y]).length := by simp
    have h1 := (hat out.length hql).2 0 _ rfl
    have e2 : (out ++ [y])[out.length]'hql = y := List.getElem_concat_length rfl _
    rw [e2, Nat.mul_one, Nat.add_zero] at h1
    have HAT := hid h1
    have hf := hfr out.length
    have hll : (out ++ [y]).length = out.length + 1 := by simp
    have HO1 := hid (show OwnT wr w.heap.size (out ++ [y]) (.slice (some ⟨g, 0, none⟩) (out.length + 1) cap) by have h := HO.out; rw [hll] at h; exact h)
    unfold maxLen at hcm
    rw [hll] at hcl ⊢
    have h32' : ((s[i]'hlt).toNat : Int) ≠ 44 := fun e => h32 (by
     have : (s[i]'hlt).toNat = 44 := by omega
     exact UInt8.toNat_inj.1 this)
    have h32b : (((s[i]'hlt).toNat : Int) == 44) = false := by simpa using h32'
    have hxs : (s.extract i (i + 1)).size = 1 := by rw [ByteArray.size_extract]; omega
    obtain ⟨z, hz⟩ : ∃ z, z = y ++ s.extract i (i + 1) := ⟨_, rfl⟩
    have hzs : z.size ≤ i + 1 := by rw [hz, ByteArray.size_append, hxs]; omega
    have hy1 : y.size + 1 ≤ 9223372036854775807 := by omega
    rw [← hz] at HQ2
    have HZZ := hid hz.symm
    clear hz hfr hat h1 e2 HO hne hql hll h32 h32'
    have HO3 := hid (show OwnT (wr.setCell ⟨g, out.length, none⟩ (.string z)).drew w.heap.size (out ++ [z]) (.slice (some ⟨g, 0, none⟩) (out.length + 1) cap) by
     have h := own_set1 HO1.out (q := out.length) (by simp) z (by unfold okS; omega)
     rw [show (out ++ [y]).set out.length z = out ++ [z] by rw [List.set_append_right _ _ (Nat.le_refl _), Nat.sub_self]; rfl] at h
     exact h.keep Flat.keeps (Below.refl _ _).drew)
    have HB3 := hid (show Below w.heap.size w (wr.setCell ⟨g, out.length, none⟩ (.string z)).drew from (hb.setCell (p := ⟨g, out.length, none⟩) hgb _).drew)
    clear hb HO1
    have h1 := HAT.out
    go_wp2_with fail
    go_region
    rw [HZZ.out]
    generalize (wr.setCell ⟨g, out.length, none⟩ (.string z)).drew = W3 at *
    clear h1 hf
    go_wp2_with fail
    go_roundw
    case rel => exact ⟨i + 1, out, z, by go_num, by omega, by omega, hzs, HQ2, HO3, HB3.out⟩
    case measure => simp [intOf]; omega
  ·have hie : i = s.size := by omega
   subst hie
   have HX := hid (show splitF s = out ++ [y] by unfold splitF; rw [HQ.out])
   obtain ⟨A9, c9, rfl⟩ := HO.out.form
   go_wp2
   go_ret
   exact ⟨_, rfl, by rw [HX.out]; exact HO.out, hb⟩
def lvlT : Nat → Str
 | 0 => ⟨#[60, 44, 61, 61]⟩
 | 1 => ⟨#[43, 44, 45]⟩
 | _ => ⟨#[42, 44, 47, 44, 37]⟩
theorem split0 : splitF ⟨#[60, 44, 61, 61]⟩ = [(⟨#[60]⟩ : Str), (⟨#[61, 61]⟩ : Str)] := by decide +kernel
theorem split1 : splitF ⟨#[43, 44, 45]⟩ = [(⟨#[43]⟩ : Str), (⟨#[45]⟩ : Str)] := by decide +kernel
theorem split2 : splitF ⟨#[42, 44, 47, 44, 37]⟩ = [(⟨#[42]⟩ : Str), (⟨#[47]⟩ : Str), (⟨#[37]⟩ : Str)] := by decide +kernel
theorem splitT : ∀ lvl, lvl ≤ 2 → splitF (lvlT lvl) = lvlS lvl
 | 0, _ => split0
 | 1, _ => split1
 | 2, _ => split2
 | n + 3, h => by omega
theorem klevels_any (lvl : Nat) (h : lvl ≤ 2) (w : World) : Calls Tryz.prog 122 #[.int .i64 (lvl : Int)] w fun e w' => e = .returned (.string (lvlT lvl)) ∧ Below w.heap.size w w' := by
 have hc : lvl = 0 ∨ lvl = 1 ∨ lvl = 2 := by omega
 rcases hc with rfl | rfl | rfl
 all_goals
  go_enter Tryz.func122, Tryz.ntmps122
  go_wp2
  go_ret
  exact ⟨rfl, (Below.refl _ _).alloc (Nat.le_refl _) _⟩
def sevS : List Str := [bz [43], bz [45], bz [42], bz [47], bz [37], bz [60], bz [61, 61]]
theorem sev_sign : ∀ (j : Nat) (h : j < 7), signK (sevS[j]'h) = (j : Int) + 3 := by decide +kernel
theorem signK_of {s x : Str} (h : (x.toList == s.toList) = true) : signK s = signK x := by
 rw [beq_iff_eq] at h
 unfold signK; rw [h]
set_option maxHeartbeats 1000000 in
set_option maxRecDepth 100000 in
theorem ksign_any (s : Str) (hs : ∃ x ∈ sevS, (x.toList == s.toList) = true) (w : World) : Calls Tryz.prog 108 #[.string s] w fun e w' => e = .returned (.int .i64 (signK s)) ∧ Below w.heap.size w w' := by
 have HS := hid hs
 clear hs
 go_enter Tryz.func108, Tryz.ntmps108
 go_wp2
 have B1 : Below w.heap.size w (w.alloc (.cells #[.string ⟨#[43]⟩, .string ⟨#[45]⟩, .string ⟨#[42]⟩, .string ⟨#[47]⟩, .string ⟨#[37]⟩, .string ⟨#[60]⟩, .string ⟨#[61, 61]⟩] 9)) := (Below.refl _ _).alloc (Nat.le_refl _) _
 have K1 := hid (show Blk 0 (w.alloc (.cells #[.string ⟨#[43]⟩, .string ⟨#[45]⟩, .string ⟨#[42]⟩, .string ⟨#[47]⟩, .string ⟨#[37]⟩, .string ⟨#[60]⟩, .string ⟨#[61, 61]⟩] 9)) w.heap.size (sevS.map Value.string) from Blk.made w _ _ (Nat.zero_le _))
 obtain ⟨d, hd⟩ : ∃ d, d = w.heap.size := ⟨_, rfl⟩
 rw [← hd] at K1 ⊢
 clear hd
 generalize w.alloc (.cells #[.string ⟨#[43]⟩, .string ⟨#[45]⟩, .string ⟨#[42]⟩, .string ⟨#[47]⟩, .string ⟨#[37]⟩, .string ⟨#[60]⟩, .string ⟨#[61, 61]⟩] 9) = W1 at *
 go_loop [7] (fun t => ∃ j : Nat, j ≤ 7 ∧ t = .int .i64 (j : Int) ∧ Hid (∀ i (h : i < 7), i < j → (sevS[i].toList == s.toList) = false)) (fun t => 7 - (intOf t).toNat)
 case atStart => exact ⟨0, by omega, rfl, hid (fun i _ h => by omega)⟩
 case round =>
  obtain ⟨j, hj, rfl, HN⟩ := hrel
  by_cases hlt : j < 7
  ·have hc := K1.out.mapAt (List.getElem?_eq_getElem (show j < sevS.length from hlt))
   have HV := hid (sev_sign j hlt)
   have HNX := hid (fun (e : (sevS[j].toList == s.toList) = false) => show ∀ i (h : i < 7), i < j + 1 → (sevS[i].toList == s.toList) = false from fun i h hi => by
    rcases Nat.lt_or_ge i j with h2 | h2
    ·exact HN.out i h h2
    ·have : i = j := by omega
     subst this; exact e)
   generalize sevS[j] = x at hc HV HNX
   cases hx : (x.toList == s.toList)
   ·have HN2 := hid (HNX.out hx)
    clear HNX HN
    go_wp2
    go_round
    case rel => exact ⟨j + 1, by omega, by go_num, HN2⟩
    case measure => simp [intOf]; omega
   ·have HG := hid (show signK s = (j : Int) + 3 by rw [signK_of hx, HV.out])
    clear HNX HN
    go_wp2
    go_ret
    exact ⟨by rw [HG.out]; rfl, B1⟩
  ·have hj7 : j = 7 := by omega
   subst hj7
   exfalso
   obtain ⟨x, hx, h2⟩ := HS.out
   obtain ⟨i, hi, rfl⟩ := List.getElem_of_mem hx
   have := HN.out i hi hi
   rw [this] at h2; cases h2
theorem any_in {l : List Str} {ts : List LTok} (h : ¬ anyG l ts = ⟨#[]⟩) : anyG l ts ∈ l := by
 induction l with
 | nil => exact absurd rfl h
 | cons s l ih =>
  rw [anyG] at h ⊢
  split
  ·exact List.mem_cons_self ..
  ·rename_i h2
   rw [if_neg h2] at h
   exact List.mem_cons_of_mem _ (ih h)
theorem lvl_sev {lvl : Nat} {s : Str} (h : s ∈ lvlS lvl) : ∃ x ∈ sevS, (x.toList == s.toList) = true := by
 refine ⟨s, ?_, by simp⟩
 match lvl, h with
 | 0, h => simp only [lvlS, List.mem_cons, List.not_mem_nil, or_false] at h; rcases h with rfl | rfl <;> simp [sevS]
 | 1, h => simp only [lvlS, List.mem_cons, List.not_mem_nil, or_false] at h; rcases h with rfl | rfl <;> simp [sevS]
 | n + 2, h => simp only [lvlS, List.mem_cons, List.not_mem_nil, or_false] at h; rcases h with rfl | rfl | rfl <;> simp [sevS]
set_option maxHeartbeats 1000000 in
set_option maxRecDepth 100000 in
theorem krsign_any {k f : Nat} {L : List LTok} {w : World} (h : RkAt k L w f) (a : Nat) (ha : a ≤ L.length) (hf : f ≤ a) (lvl : Nat) (hl : lvl ≤ 2) :
    Calls Tryz.prog 107 #[.pointer (some ⟨k, 0, none⟩), .int .i64 (a : Int), .int .i64 (lvl : Int)] w fun e w' => ∃ b : Nat, e = .returned (.tuple #[.string (anyG (lvlS lvl) (L.drop a)), .int .i64 (b : Int)]) ∧ (¬ anyG (lvlS lvl) (L.drop a) = ⟨#[]⟩ → b = a + 1) ∧ RkAt k L w' a ∧ But (Is k) w w' := by
 have hll := h.len.1
 have hok := ok_lvl lvl
 have hn1 : (lvlS lvl).length ≤ 3 := by
  match lvl with
  | 0 => simp [lvlS]
  | 1 => simp [lvlS]
  | n + 2 => simp [lvlS]
 have hn0 : 0 < (lvlS lvl).length := by
  match lvl with
  | 0 => simp [lvlS]
  | 1 => simp [lvlS]
  | n + 2 => simp [lvlS]
 have HKL := hid (klevels_any lvl hl w)
 have HSP := hid (fun W => ksplit_any (lvlT lvl) (by match lvl, hl with
  | 0, _ => decide
  | 1, _ => decide
  | 2, _ => decide) W)
 rw [splitT lvl hl] at HSP
 have H := hid h
 have hkw := h.lt
 obtain ⟨Z, hZ⟩ : ∃ Z, Z = anyG (lvlS lvl) (L.drop a) := ⟨_, rfl⟩
 rw [← hZ]
 generalize lvlS lvl = l at *
 have HZ := hid hZ
 clear h hZ hok
 go_enter Tryz.func107, Tryz.ntmps107
 go_wp2_with (first | (go_at_call 122; refine HKL.out.mono ?_; rintro e w1 ⟨rfl, hb1⟩) | (go_at_call 121; refine (HSP.out _).mono ?_; rintro e w2 ⟨v, rfl, ho, hb2⟩; obtain ⟨A, cap, rfl⟩ := ho.form))
 have HP2 := hid ((H.out.below hb1).below hb2)
 have HR2 := hid (show RdSs w2 (fun b => w1.heap.size ≤ b ∧ b < w2.heap.size) l (.slice A l.length cap) from ho.rd (by omega))
 have HB2 := hid ((But.of_b (T := Is k) hb1).trans (But.of_b hb2))
 have hz1 := hb1.size
 have hz2 := hb2.size
 clear ho hb1 hb2 H HKL HSP
 go_loopw [14] (fun t wr => ∃ (j g : Nat), j ≤ l.length ∧ t = .int .i64 (j : Int) ∧ g ≤ a ∧ (0 < j → g = a) ∧ Hid (Z = anyG (l.drop j) (L.drop a)) ∧ Hid (RkAt k L wr g) ∧ Hid (But (Is k) w2 wr)) (fun t _ => l.length - (intOf t).toNat)
 case atStart => exact ⟨0, f, by omega, rfl, hf, fun h => by omega, HZ, HP2, hid (But.refl _ _)⟩
 case round =>
  obtain ⟨j, g, hj, rfl, hg, hjg, HK, HP, HB⟩ := hrel
  clear HP2 HZ
  by_cases hlt : j < l.length
  ·have r := HR2.out.keep Flat.keeps (Sub.refl _) (HB.out.same (fun b hb => hb.2) (fun b hb e => by unfold Is at e; have := hb.1; omega))
   obtain ⟨b0, off, rfl, hb0, hok, hc⟩ := RdSs.at1 r hlt
   have HD := hid (show l.drop j = l[j] :: l.drop (j + 1) from List.drop_eq_getElem_cons hlt)
   generalize l[j] = x at hc hok HD
   have HI := hid (kword_any HP.out a ha hg x)
   clear r hb0
   cases hx : isT x (L.drop a)
   ·have HK2 := hid (show Z = anyG (l.drop (j + 1)) (L.drop a) by rw [HK.out, HD.out, anyG, if_neg (by rw [hx]; simp)])
    rw [hx] at HI
    clear HK HD hx
    go_wp2_with (go_at_call 52; refine HI.out.mono ?_; rintro e w3 ⟨rfl, h1, hb1⟩)
    go_roundw
    case rel => exact ⟨j + 1, a, by omega, by go_num, Nat.le_refl _, fun _ => rfl, HK2, hid h1, hid (HB.out.trans hb1)⟩
    case measure => simp [intOf]; omega
   ·have HK2 := hid (show Z = x by rw [HK.out, HD.out, anyG, if_pos hx])
    rw [hx] at HI
    clear HK HD hx
    go_wp2_with (go_at_call 52; refine HI.out.mono ?_; rintro e w3 ⟨rfl, h1, hb1⟩)
    go_ret2
    exact ⟨a + 1, by rw [HK2.out]; rfl, fun _ => rfl, h1, HB2.out.trans (HB.out.trans hb1)⟩
  ·have hkl : j = l.length := by omega
   subst hkl
   have HK2 := hid (show Z = ⟨#[]⟩ by rw [HK.out, List.drop_length]; rfl)
   obtain rfl := hjg hn0
   go_wp2_with fail
   go_ret2
   exact ⟨_, by rw [HK2.out]; rfl, fun h => absurd HK2.out h, HP.out, HB2.out.trans HB.out⟩
end Go.Proofs.YtnpgpcnkdocknaaGreatDoor
