/- The walks of the printer's stmts and of Print. -/
import Derived.Test.YtijahadmaggncaaDoorPb5
import Derived.Test.YtijahadmaggncaaDoorPb6
namespace Go.Proofs.YtijahadmaggncaaDoor
open Go.RowKit
set_option linter.unusedVariables false
theorem wts_takeK (l : List St) {q : Nat} (hq : q < l.length) : St.wts (l.take q) + l[q].wt ≤ St.wts l := by
  induction l generalizing q with
  | nil => simp at hq
  | cons x r ih =>
    match q, hq with
    | 0, _ => simp [St.wts]
    | q + 1, hq =>
      have := ih (q := q) (by simpa using hq)
      simp only [List.take_succ_cons, St.wts, List.getElem_cons_succ]
      omega
theorem RdEx.toEK {w : World} {S : Blocks} {e : Ex} {k n : Int} {s : ByteArray} {v : Value} (h : RdEx w S e [.int .i64 k, .int .i64 n, .string s, v]) : RdE w S e (exV k n s v) := by
  obtain ⟨k', n', s', args⟩ := e
  obtain ⟨h1, h2, h3, v', he, h4⟩ := RdEx.open_ h
  simp only [List.cons.injEq, Value.int.injEq, Value.string.injEq, and_true, true_and] at he
  obtain ⟨rfl, rfl, rfl, rfl⟩ := he
  exact ⟨_, _, _, _, _, rfl, rfl, h1, h2, h3, h4⟩
set_option maxHeartbeats 4000000 in
set_option maxRecDepth 100000 in
theorem pstmts_one (l : List St) (h : ∀ k s a b body els, St.mk k s a b body els ∈ l → PxL body ∧ PxL els) : PxL l := by
  intro base p w S V acc bad hS hbs hp r hF hwt hlen
  obtain ⟨A, cap, rfl, hl, hcm, hby⟩ := r.form
  unfold maxLen at hcm
  have H := Lib.hid h
  have R := Lib.hid r
  have HS := Lib.hid hS
  have HP := Lib.hid hp
  have HF := Lib.hid hF
  clear h r hS hp hF
  go_enter Tryd.func18, Tryd.ntmps18
  go_wp2_with fail
  go_loopw [8] (fun t wr => ∃ q : Nat, q ≤ l.length ∧ t = .int .i64 q ∧ Hid (PrAt base p wr (putL acc (tkL false (l.take q)).1) (bad || !(tkL false (l.take q)).2)) ∧ Hid (PrGo base p w wr) ∧ tsz (tkL false (l.take q)).1 ≤ 64 * St.wts (l.take q)) (fun t _ => l.length - (intOf t).toNat)
  case atStart => exact ⟨0, by omega, rfl, Lib.hid (by rw [List.take_zero]; simpa [tkL, putL] using HP.out), Lib.hid (PrGo.refl _ _ _), by rw [List.take_zero]; simp [tkL, tsz]⟩
  case round =>
    clear HP
    obtain ⟨q, hq, rfl, HPq, HG, hts⟩ := hrel
    by_cases hlt : q < l.length
    · have RW := R.out.go RdSt.keeps HG.out.be HS.out (Sub.refl _)
      obtain ⟨b0, off, cs, rfl, hb, hcl, hcell, hrd⟩ := RW.at_ hlt
      have hb : b0 < base := HS.out _ hb
      have hbr : base ≤ wr.heap.size := Nat.le_trans hbs HG.out.size
      have hb0 : b0 < wr.heap.size := by omega
      have hmem := List.getElem_mem hlt
      have hwq := wts_takeK l hlt
      have HT := Lib.hid (tkL_take false l hlt)
      obtain ⟨wn, hwn⟩ : ∃ wn, wn = St.wts (l.take (q + 1)) := ⟨_, rfl⟩
      have hwn1 : St.wts (l.take q) + l[q].wt ≤ wn := by
        have e : ∀ (m : List St) (x : St), St.wts (m ++ [x]) = St.wts m + x.wt := by
          intro m x
          induction m with
          | nil => simp [St.wts]
          | cons y m ih => simp only [List.cons_append, St.wts, ih]; omega
        rw [hwn, List.take_succ_eq_append_getElem hlt, e]
        omega
      have HWN := Lib.hid hwn
      clear hwn
      obtain ⟨st, hst⟩ : ∃ st, l[q] = st := ⟨_, rfl⟩
      rw [hst] at hrd hmem hwq HT hwn1
      obtain ⟨k, s, a, b, body, els⟩ := st
      obtain ⟨k1, n1, s1, A1, m1, p1, k2, n2, s2, A2, m2, p2, A3, p3, A4, p4, rfl, hk, hs, ra, rb, rv, rv'⟩ := hrd.cells
      have e0 : wr.cell? ⟨b0, off + q * 12, none⟩ = some _ := hcell 0 _ rfl
      have e1 : wr.cell? ⟨b0, off + q * 12 + 1, none⟩ = some _ := hcell 1 _ rfl; have e2 : wr.cell? ⟨b0, off + q * 12 + 2, none⟩ = some _ := hcell 2 _ rfl; have e3 : wr.cell? ⟨b0, off + q * 12 + 3, none⟩ = some _ := hcell 3 _ rfl; have e4 : wr.cell? ⟨b0, off + q * 12 + 4, none⟩ = some _ := hcell 4 _ rfl; have e5 : wr.cell? ⟨b0, off + q * 12 + 5, none⟩ = some _ := hcell 5 _ rfl; have e6 : wr.cell? ⟨b0, off + q * 12 + 6, none⟩ = some _ := hcell 6 _ rfl; have e7 : wr.cell? ⟨b0, off + q * 12 + 7, none⟩ = some _ := hcell 7 _ rfl; have e8 : wr.cell? ⟨b0, off + q * 12 + 8, none⟩ = some _ := hcell 8 _ rfl; have e9 : wr.cell? ⟨b0, off + q * 12 + 9, none⟩ = some _ := hcell 9 _ rfl; have e10 : wr.cell? ⟨b0, off + q * 12 + 10, none⟩ = some _ := hcell 10 _ rfl; have e11 : wr.cell? ⟨b0, off + q * 12 + 11, none⟩ = some _ := hcell 11 _ rfl
      have HIB := Lib.hid (H.out _ _ _ _ _ _ hmem)
      have rva : RdE wr S a (exV k1 n1 s1 (.slice A1 m1 p1)) := RdEx.toEK ra
      have rvb : RdE wr S b (exV k2 n2 s2 (.slice A2 m2 p2)) := RdEx.toEK rb
      have hbel : Below wr.heap.size wr (wr.alloc (.cells #[.int .i64 k, .string s, .int .i64 k1, .int .i64 n1, .string s1, .slice A1 m1 p1, .int .i64 k2, .int .i64 n2, .string s2, .slice A2 m2 p2, .slice A3 body.length p3, .slice A4 els.length p4] 76)) := (Below.refl _ _).alloc (Nat.le_refl _) _
      have hbe2 : Below base wr (wr.alloc (.cells #[.int .i64 k, .string s, .int .i64 k1, .int .i64 n1, .string s1, .slice A1 m1 p1, .int .i64 k2, .int .i64 n2, .string s2, .slice A2 m2 p2, .slice A3 body.length p3, .slice A4 els.length p4] 76)) := hbel.mono hbr
      have HC := Lib.hid (pstmt_any k s a b body els HIB.out.1 HIB.out.2 base p (wr.alloc (.cells #[.int .i64 k, .string s, .int .i64 k1, .int .i64 n1, .string s1, .slice A1 m1 p1, .int .i64 k2, .int .i64 n2, .string s2, .slice A2 m2 p2, .slice A3 body.length p3, .slice A4 els.length p4] 76)) S (putL acc (tkL false (l.take q)).1) (bad || !(tkL false (l.take q)).2) k1 n1 s1 A1 m1 p1 k2 n2 s2 A2 m2 p2 A3 p3 A4 p4 HS.out (Nat.le_trans hbr hbel.size) (HPq.out.below hbel) (rva.go hbe2 HS.out) (rvb.go hbe2 HS.out) (rv.go RdSt.keeps hbe2 HS.out (Sub.refl _)) (rv'.go RdSt.keeps hbe2 HS.out (Sub.refl _)) ((HF.out.go HG.out).next hbe2) (by omega) (by have := putL_len (tkL false (l.take q)).1 acc; omega))
      have GN := Lib.hid (HG.out.trans (PrGo.of_below (p := p) hbel hbr))
      clear HPq hbel hbe2 rva rvb rv rv' ra rb hrd hcell hmem RW HG hcl
      go_upto_region 3 with (fail)
      have hlz : wr.heap.size < ((wr.alloc (.cells #[.int .i64 k, .string s, .int .i64 k1, .int .i64 n1, .string s1, .slice A1 m1 p1, .int .i64 k2, .int .i64 n2, .string s2, .slice A2 m2 p2, .slice A3 body.length p3, .slice A4 els.length p4] 76))).heap.size := by simp
      have BX := BoxIs.made wr #[.int .i64 k, .string s, .int .i64 k1, .int .i64 n1, .string s1, .slice A1 m1 p1, .int .i64 k2, .int .i64 n2, .string s2, .slice A2 m2 p2, .slice A3 body.length p3, .slice A4 els.length p4] 76
      clear e0 e1 e2 e3 e4 e5 e6 e7 e8 e9 e10 e11
      generalize (wr.alloc (.cells #[.int .i64 k, .string s, .int .i64 k1, .int .i64 n1, .string s1, .slice A1 m1 p1, .int .i64 k2, .int .i64 n2, .string s2, .slice A2 m2 p2, .slice A3 body.length p3, .slice A4 els.length p4] 76)) = W at *
      generalize wr.heap.size = d at *
      have e0 := BX.cell 0; have e1 := BX.cell 1; have e2 := BX.cell 2; have e3 := BX.cell 3; have e4 := BX.cell 4; have e5 := BX.cell 5; have e6 := BX.cell 6; have e7 := BX.cell 7; have e8 := BX.cell 8; have e9 := BX.cell 9; have e10 := BX.cell 10; have e11 := BX.cell 11
      go_wp2_with (go_at_call 38; refine HC.out.mono ?_)
      rintro e w1 ⟨⟨x1, rfl⟩, h1, g1, l1⟩
      have H1 := Lib.hid h1
      have G1 := Lib.hid (GN.out.trans g1)
      have L1 := Lib.hid l1
      clear h1 g1 l1 HC GN e0 e1 e2 e3 e4 e5 e6 e7 e8 e9 e10 e11 BX
      go_wp2_with fail
      go_roundw
      case rel => exact ⟨q + 1, by omega, by go_num, Lib.hid (by rw [HT.out]; show PrAt base p w1 (putL acc ((tkL false (l.take q)).1 ++ (tkS false (.mk k s a b body els)).1)) (bad || !((tkL false (l.take q)).2 && (tkS false (.mk k s a b body els)).2)); rw [putL_app, Bool.not_and, ← Bool.or_assoc]; exact H1.out), Lib.hid G1.out, by rw [HT.out]; show tsz ((tkL false (l.take q)).1 ++ (tkS false (.mk k s a b body els)).1) ≤ _; rw [tsz_app, ← HWN.out]; have := L1.out; omega⟩
      case measure => simp [intOf]; omega
    · have hql : q = l.length := by omega
      subst hql
      rw [List.take_of_length_le (Nat.le_refl _)] at HPq hts
      go_wp2
      go_end0
      exact ⟨⟨_, rfl⟩, HPq.out, HG.out, hts⟩
theorem pstmts_any (l : List St) : PxL l := St.indL pstmts_one l
/-- what Print answers -/
def printS (l : List St) : Str := if (tkL false l).2 then ⟨(putL [] (tkL false l).1).toArray⟩ else ⟨#[]⟩
def printE (l : List St) : Int := if (tkL false l).2 then 0 else 1
set_option maxHeartbeats 2000000 in
set_option maxRecDepth 100000 in
theorem print_any (l : List St) (w : World) (S : Blocks) (V : Value) (hS : Sub S (Upto w.heap.size)) (r : RdSts w S l V) (hF : FmtT w) (hwt : St.wts l ≤ 1048576) :
    Calls Tryd.prog 6 #[V] w fun e w' => e = .returned (.tuple #[.string (printS l), .int .i64 (printE l)]) ∧ Below w.heap.size w w' := by
  have hbl : Below w.heap.size w (w.alloc (.cells #[.pointer none, .slice none 0 0, .bool false] 47)) := (Below.refl _ _).alloc (Nat.le_refl _) _
  have hP : PrAt w.heap.size w.heap.size (w.alloc (.cells #[.pointer none, .slice none 0 0, .bool false] 47)) [] false :=
    ⟨.slice none 0 0, .pointer none, .inl rfl, ⟨Nat.le_refl _, heap_new_ w _, ⟨by simp [Lib.byteCells], .inl ⟨rfl, rfl⟩⟩, by simp [Value.ownBlock]⟩⟩
  have HR := Lib.hid (r.go RdSt.keeps hbl hS (Sub.refl _))
  have HF : Hid (FmtB w.heap.size _) := Lib.hid (⟨hF.go hbl, hF.pow.lt, hF.lt⟩ : FmtB w.heap.size (w.alloc (.cells #[.pointer none, .slice none 0 0, .bool false] 47)))
  have HC := Lib.hid (pstmts_any l w.heap.size w.heap.size _ S V [] false hS hbl.size hP HR.out HF.out hwt (by simp; omega))
  have GB := Lib.hid hbl
  clear hP HR HF hbl r hF hS
  obtain ⟨ok, hok⟩ : ∃ ok, ok = (tkL false l).2 := ⟨_, rfl⟩
  have HOK := Lib.hid hok
  clear hok
  go_enter Tryd.func6, Tryd.ntmps6
  go_upto_region 2 with (fail)
  generalize (w.alloc (.cells #[.pointer none, .slice none 0 0, .bool false] 47)) = W at *
  have HSZ := GB.out.size
  generalize hd : w.heap.size = d at *
  have HD := Lib.hid hd
  clear hd
  go_wp2_with (go_at_call 18; refine HC.out.mono ?_)
  rintro e w1 ⟨⟨x1, rfl⟩, h1, g1, l1⟩
  have h1 : PrAt d d w1 (putL [] (tkL false l).1) (!ok) := by rw [HOK.out]; simpa using h1
  have c2 : w1.cell? ⟨d, 2, none⟩ = some (.bool (!ok)) := by obtain ⟨v, a, _, h1⟩ := h1; exact h1.c2
  have H1 := Lib.hid h1
  have G1 := Lib.hid (GB.out.trans g1.be)
  have hsz := Nat.le_trans HSZ g1.size
  clear h1 g1 HC GB
  cases ok
  · have E1 := Lib.hid (show printS l = ⟨#[]⟩ by unfold printS; rw [← HOK.out]; rfl)
    have E2 := Lib.hid (show printE l = 1 by unfold printE; rw [← HOK.out]; rfl)
    go_wp2
    go_ret2
    exact ⟨by rw [E1.out, E2.out]; rfl, by rw [HD.out]; exact G1.out⟩
  · have E1 := Lib.hid (show printS l = ⟨(putL [] (tkL false l).1).toArray⟩ by unfold printS; rw [← HOK.out]; rfl)
    have E2 := Lib.hid (show printE l = 0 by unfold printE; rw [← HOK.out]; rfl)
    go_wp2_with (go_at_call 19; refine (pstr_any hsz H1.out).mono ?_)
    rintro e w2 ⟨rfl, b2⟩
    have G2 := Lib.hid (G1.out.trans b2)
    clear b2
    go_wp2
    go_ret2
    exact ⟨by rw [E1.out, E2.out]; rfl, by rw [HD.out]; exact G2.out⟩
end Go.Proofs.YtijahadmaggncaaDoor
