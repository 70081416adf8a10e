/- The walks of the printer's block, nested and stmt. (printed by gen_pb5.py) -/
import Derived.Test.YtnpgpcnkdocknaaGreatDoorGKpSpec2
namespace Go.Proofs.YtnpgpcnkdocknaaGreatDoor
open Go.RowKit
set_option linter.unusedVariables false
def PxL (l : List St) : Prop := ∀ (base p : Nat) (w : World) (S : Blocks) (V : Value) (acc : List UInt8) (bad : Bool), Sub S (Upto base) → base ≤ w.heap.size → PrAt base p w acc bad → RdSts w S l V → FmtB base w → St.wts l ≤ 67108864 → acc.length + 64 * St.wts l ≤ 140737488355320 →
 Calls Tryz.prog 25 #[.pointer (some ⟨p, 0, none⟩), V] w fun e w' => (∃ x, e = .returned x) ∧ PrAt base p w' (putL acc (tkL false l).1) (bad || !(tkL false l).2) ∧ PrGo base p w w' ∧ tsz (tkL false l).1 ≤ 64 * St.wts l
structure PSt (base p d : Nat) (S : Blocks) (cs : Array Value) (a b : Ex) (body els : List St) (VA VB VC VD : Value) (w0 : World) (acc : List UInt8) (bad : Bool) (w : World) (ls : Tks) (N : Nat) : Prop where
 pr : PrAt base p w (putL acc ls.1) (bad || !ls.2)
 bx : BoxIs w d cs 82
 go : PrGo base p w0 w
 fm : FmtB base w
 ra : RdE w S a VA
 rb : RdE w S b VB
 rc : RdSts w S body VC
 rd : RdSts w S els VD
 sz : base ≤ w.heap.size
 ln : tsz ls.1 ≤ N
section
variable {base p d : Nat} {S : Blocks} {cs : Array Value} {a b : Ex} {body els : List St} {VA VB VC VD : Value} {w0 w w' : World} {acc : List UInt8} {bad : Bool} {ls : Tks} {N : Nat}
theorem PSt.step (h : PSt base p d S cs a b body els VA VB VC VD w0 acc bad w ls N) (hS : Sub S (Upto base)) (hd : d ≠ p) {m : Tks} {M : Nat} (hp : PrAt base p w' (putL (putL acc ls.1) m.1) ((bad || !ls.2) || !m.2)) (hg : PrGo base p w w') (hm : tsz m.1 ≤ M) :
    PSt base p d S cs a b body els VA VB VC VD w0 acc bad w' (tcat ls m) (N + M) := by
 refine ⟨?_, h.bx.go hg hd (by decide), h.go.trans hg, h.fm.go hg, h.ra.go hg.be hS, h.rb.go hg.be hS, h.rc.go RdSt.keeps hg.be hS (Sub.refl _), h.rd.go RdSt.keeps hg.be hS (Sub.refl _), Nat.le_trans h.sz hg.size, ?_⟩
 ·show PrAt base p w' (putL acc (ls.1 ++ m.1)) (bad || !(ls.2 && m.2))
  rw [putL_app, Bool.not_and, ← Bool.or_assoc]
  exact hp
 ·show tsz (ls.1 ++ m.1) ≤ _
  rw [tsz_app]
  have := h.ln
  omega
theorem PSt.put (h : PSt base p d S cs a b body els VA VB VC VD w0 acc bad w ls N) (hS : Sub S (Upto base)) (hd : d ≠ p) {l : List Str} (hp : PrAt base p w' (putL (putL acc ls.1) l) (bad || !ls.2)) (hg : PrGo base p w w') (hm : tsz l ≤ 8) :
    PSt base p d S cs a b body els VA VB VC VD w0 acc bad w' (tcat ls (T1 l)) (N + 8) := h.step hS hd (by rw [Bool.not_true, Bool.or_false]; exact hp) hg hm
theorem PSt.len (h : PSt base p d S cs a b body els VA VB VC VD w0 acc bad w ls N) : (putL acc ls.1).length ≤ acc.length + N := by
 have := putL_len ls.1 acc
 have := h.ln
 omega
theorem PSt.fin {k : Int} {s : Str} {n : Nat} (h : PSt base p d S cs a b body els VA VB VC VD w0 acc bad w ls N) (e : tkS false (.mk k s a b body els) = ls) (hN : N ≤ n) :
    PrAt base p w (putL acc (tkS false (.mk k s a b body els)).1) (bad || !(tkS false (.mk k s a b body els)).2) ∧ PrGo base p w0 w ∧ tsz (tkS false (.mk k s a b body els)).1 ≤ n := by
 rw [e]
 exact ⟨h.pr, h.go, Nat.le_trans h.ln hN⟩
end
set_option maxHeartbeats 2000000 in
set_option maxRecDepth 100000 in
theorem pblock_any (l : List St) (hl : PxL l) {base p : Nat} {w : World} {S : Blocks} {V : Value} {acc : List UInt8} {bad : Bool} (hS : Sub S (Upto base)) (hb : base ≤ w.heap.size) (h : PrAt base p w acc bad) (r : RdSts w S l V) (hF : FmtB base w) (hwt : St.wts l ≤ 67108864) (hlen : acc.length + 64 * St.wts l + 8 ≤ 140737488355320) :
    Calls Tryz.prog 99 #[.pointer (some ⟨p, 0, none⟩), V] w fun e w' => (∃ x, e = .returned x) ∧ PrAt base p w' (putL acc (tblk (tkL false l)).1) (bad || !(tblk (tkL false l)).2) ∧ PrGo base p w w' ∧ tsz (tblk (tkL false l)).1 ≤ 64 * St.wts l + 4 := by
 have H := hid h
 have R := hid r
 have HF := hid hF
 have HL := hid hl
 have HS := hid hS
 have a0 := putL_len [bs [123]] acc
 have t1 : tsz [bs [123]] = 2 := by decide
 have t2 : tsz [bs [125]] = 2 := by decide
 clear h r hF hl hS
 go_enter Tryz.func99, Tryz.ntmps99
 go_wp2_with (go_at_call 75; refine (put_new [bs [123]] H.out hb (by omega)).mono ?_)
 rintro e w1 ⟨⟨x1, rfl⟩, h1, g1⟩
 have H1 := hid h1
 have G1 := hid g1
 have HB1 := hid (Nat.le_trans hb g1.size)
 clear h1 g1
 go_wp2_with (go_at_call 25; refine (HL.out base p _ S _ _ _ HS.out HB1.out H1.out (R.out.go RdSt.keeps G1.out.be HS.out (Sub.refl _)) (HF.out.go G1.out) hwt (by omega)).mono ?_)
 rintro e w2 ⟨⟨x2, rfl⟩, h2, g2, l2⟩
 have H2 := hid h2
 have G2 := hid (G1.out.trans g2)
 have HB2 := hid (Nat.le_trans HB1.out g2.size)
 have L2 := hid l2
 have a1 := putL_len (tkL false l).1 (putL acc [bs [123]])
 clear h2 g2
 go_wp2_with (go_at_call 75; refine (put_new [bs [125]] H2.out HB2.out (by omega)).mono ?_)
 rintro e w3 ⟨⟨x3, rfl⟩, h3, g3⟩
 have H3 := hid h3
 have G3 := hid (G2.out.trans g3)
 clear h3 g3
 go_wp2
 go_end0
 refine ⟨⟨_, rfl⟩, ?_, G3.out, ?_⟩
 ·have h3 := H3.out
  show PrAt base p w3 (putL acc (([bs [123]] ++ (tkL false l).1) ++ [bs [125]])) (bad || !((true && (tkL false l).2) && true))
  rw [putL_app, putL_app, Bool.true_and, Bool.and_true]
  exact h3
 ·show tsz (([bs [123]] ++ (tkL false l).1) ++ [bs [125]]) ≤ _
  rw [tsz_app, tsz_app]
  have := L2.out
  omega
def PxS (f : FuncId) (k : Int) (s : Str) (a b : Ex) (body els : List St) : Prop := ∀ (base p : Nat) (w : World) (S : Blocks) (acc : List UInt8) (bad : Bool) (k1 n1 : Int) (s1 : ByteArray) (A1 : Option Addr) (m1 p1 : Nat) (k2 n2 : Int) (s2 : ByteArray) (A2 : Option Addr) (m2 p2 : Nat) (A3 : Option Addr) (p3 : Nat) (A4 : Option Addr) (p4 : Nat), Sub S (Upto base) → base ≤ w.heap.size → PrAt base p w acc bad →
 RdE w S a (exV k1 n1 s1 (.slice A1 m1 p1)) → RdE w S b (exV k2 n2 s2 (.slice A2 m2 p2)) → RdSts w S body (.slice A3 body.length p3) → RdSts w S els (.slice A4 els.length p4) → FmtB base w → (St.mk k s a b body els).wt ≤ 67108864 → acc.length + 64 * (St.mk k s a b body els).wt ≤ 140737488355320 →
 Calls Tryz.prog f #[.pointer (some ⟨p, 0, none⟩), .agg #[.int .i64 k, .string s, .int .i64 k1, .int .i64 n1, .string s1, .slice A1 m1 p1, .int .i64 k2, .int .i64 n2, .string s2, .slice A2 m2 p2, .slice A3 body.length p3, .slice A4 els.length p4]] w fun e w' => (∃ x, e = .returned x) ∧ PrAt base p w' (putL acc (tkS false (.mk k s a b body els)).1) (bad || !(tkS false (.mk k s a b body els)).2) ∧ PrGo base p w w' ∧ tsz (tkS false (.mk k s a b body els)).1 ≤ 64 * (St.mk k s a b body els).wt
theorem tkS_let (neg : Bool) (s : Str) (a b : Ex) (body els : List St) : tkS neg (.mk 1 s a b body els) = tcat (tcat (tcat (tcat (tcat (T1 []) (T1 [bs [108, 101, 116]])) (tname s)) (T1 [bs [61]])) (tkE neg a false)) (T1 [bs [59]]) := by
 rw [tkS]; simp [partsK, seqT, tcat]
theorem tkS_load (neg : Bool) (s : Str) (a b : Ex) (body els : List St) : tkS neg (.mk 2 s a b body els) = tcat (tcat (tcat (tcat (tcat (T1 []) (T1 [bs [108, 111, 97, 100]])) (tname s)) (T1 [bs [61], bs [91]])) (tkE neg a false)) (T1 [bs [93], bs [59]]) := by
 rw [tkS]; simp [partsK, seqT, tcat]
theorem tkS_store (neg : Bool) (s : Str) (a b : Ex) (body els : List St) : tkS neg (.mk 3 s a b body els) = tcat (tcat (tcat (tcat (tcat (T1 []) (T1 [bs [115, 116, 111, 114, 101], bs [91]])) (tkE neg a false)) (T1 [bs [93], bs [61]])) (tkE neg b false)) (T1 [bs [59]]) := by
 rw [tkS]; simp [partsK, seqT, tcat]
theorem tkS_async (neg : Bool) (s : Str) (a b : Ex) (body els : List St) : tkS neg (.mk 4 s a b body els) = tcat (tcat (T1 []) (T1 [bs [97, 115, 121, 110, 99]])) (tblk (tkL neg body)) := by
 rw [tkS]; simp [partsK, seqT, tcat]
theorem tkS_finish (neg : Bool) (s : Str) (a b : Ex) (body els : List St) : tkS neg (.mk 5 s a b body els) = tcat (tcat (T1 []) (T1 [bs [102, 105, 110, 105, 115, 104]])) (tblk (tkL neg body)) := by
 rw [tkS]; simp [partsK, seqT, tcat]
theorem tkS_for (neg : Bool) (s : Str) (a b : Ex) (body els : List St) : tkS neg (.mk 7 s a b body els) = tcat (tcat (tcat (tcat (tcat (tcat (tcat (T1 []) (T1 [bs [102, 111, 114]])) (tname s)) (T1 [bs [61]])) (tkE neg a false)) (T1 [bs [116, 111]])) (tkE neg b false)) (tblk (tkL neg body)) := by
 rw [tkS]; simp [partsK, seqT, tcat]
theorem tkS_if0 (neg : Bool) (s : Str) (a b : Ex) (body els : List St) (h : els.length = 0) : tkS neg (.mk 6 s a b body els) = tcat (tcat (tcat (T1 []) (T1 [bs [105, 102]])) (tkE neg a false)) (tblk (tkL neg body)) := by
 rw [tkS, List.length_eq_zero_iff.1 h]; simp [partsK, seqT, tcat]
theorem tkS_if1 (neg : Bool) (s : Str) (a b : Ex) (body els : List St) (h : els.length ≠ 0) : tkS neg (.mk 6 s a b body els) = tcat (tcat (tcat (tcat (tcat (T1 []) (T1 [bs [105, 102]])) (tkE neg a false)) (tblk (tkL neg body))) (T1 [bs [101, 108, 115, 101]])) (tblk (tkL neg els)) := by
 obtain ⟨e, r, rfl⟩ : ∃ e r, els = e :: r := by cases els with
  | nil => simp at h
  | cons e r => exact ⟨e, r, rfl⟩
 rw [tkS]; simp [partsK, seqT, tcat]
theorem tkS_no (neg : Bool) {k : Int} (s : Str) (a b : Ex) (body els : List St) (h : k < 1 ∨ 7 < k) : tkS neg (.mk k s a b body els) = ([], false) := by
 rw [tkS]; unfold partsK; rw [if_neg (show ¬ k = 1 by omega)]; rw [if_neg (show ¬ k = 2 by omega)]; rw [if_neg (show ¬ k = 3 by omega)]; rw [if_neg (show ¬ k = 4 by omega)]; rw [if_neg (show ¬ k = 5 by omega)]; rw [if_neg (show ¬ k = 6 by omega)]; rw [if_neg (show ¬ k = 7 by omega)]; rfl
set_option maxHeartbeats 4000000 in
set_option maxRecDepth 100000 in
theorem pnested_any (k : Int) (s : Str) (a b : Ex) (body els : List St) (hk : k ≠ 1 ∧ k ≠ 2 ∧ k ≠ 3) (hbody : PxL body) (hels : PxL els) : PxS 78 k s a b body els := by
 intro base p w S acc bad k1 n1 s1 A1 m1 p1 k2 n2 s2 A2 m2 p2 A3 p3 A4 p4 hS hb h ra rb rc rd hF hwt hlen
 have hbl : Below w.heap.size w (w.alloc (.cells #[.int .i64 k, .string s, .int .i64 k1, .int .i64 n1, .string s1, .slice A1 m1 p1, .int .i64 k2, .int .i64 n2, .string s2, .slice A2 m2 p2, .slice A3 body.length p3, .slice A4 els.length p4] 82)) := (Below.refl _ _).alloc (Nat.le_refl _) _
 have P0 := hid (show PSt base p w.heap.size S #[.int .i64 k, .string s, .int .i64 k1, .int .i64 n1, .string s1, .slice A1 m1 p1, .int .i64 k2, .int .i64 n2, .string s2, .slice A2 m2 p2, .slice A3 body.length p3, .slice A4 els.length p4] a b body els (exV k1 n1 s1 (.slice A1 m1 p1)) (exV k2 n2 s2 (.slice A2 m2 p2)) (.slice A3 body.length p3) (.slice A4 els.length p4) w acc bad (w.alloc (.cells #[.int .i64 k, .string s, .int .i64 k1, .int .i64 n1, .string s1, .slice A1 m1 p1, .int .i64 k2, .int .i64 n2, .string s2, .slice A2 m2 p2, .slice A3 body.length p3, .slice A4 els.length p4] 82)) (T1 []) 0 from
  ⟨by rw [Bool.not_true, Bool.or_false]; exact h.below hbl, BoxIs.made w _ _, PrGo.of_below hbl hb, hF.next (hbl.mono hb), ra.go (hbl.mono hb) hS, rb.go (hbl.mono hb) hS, rc.go RdSt.keeps (hbl.mono hb) hS (Sub.refl _), rd.go RdSt.keeps (hbl.mono hb) hS (Sub.refl _), Nat.le_trans hb hbl.size, Nat.zero_le _⟩)
 have hdp : w.heap.size ≠ p := by have := h.lt; omega
 have HS := hid hS
 simp only [St.wt] at hwt hlen ⊢
 obtain ⟨WN, hWN⟩ : ∃ WN, WN = 1 + s.size + a.wt + b.wt + St.wts body + St.wts els := ⟨_, rfl⟩
 rw [← hWN] at hwt hlen ⊢
 have HWN := hid hWN
 have hWN1 : 1 + s.size + a.wt + b.wt + St.wts body + St.wts els ≤ WN := by omega
 clear hWN
 clear h hF hbl ra rb rc rd hS hb
 go_enter Tryz.func78, Tryz.ntmps78
 go_upto_region 1 with (fail)
 generalize (w.alloc (.cells #[.int .i64 k, .string s, .int .i64 k1, .int .i64 n1, .string s1, .slice A1 m1 p1, .int .i64 k2, .int .i64 n2, .string s2, .slice A2 m2 p2, .slice A3 body.length p3, .slice A4 els.length p4] 82)) = W at *
 generalize w.heap.size = d at *
 have c0 : W.cell? ⟨d, 0, none⟩ = some (.int .i64 k) := P0.out.bx.cell 0
 by_cases h4 : k = 4
 ·subst h4
  have l0 := P0.out.len
  go_wp2_with (go_at_call 75; refine (put_new [bs [97, 115, 121, 110, 99]] P0.out.pr P0.out.sz (by (have t : tsz [bs [97, 115, 121, 110, 99]] ≤ 8 := by decide); omega)).mono ?_)
  rintro e w1 x0 rfl h g
  have h : PrAt base p w1 (putL (putL acc (T1 []).1) [bs [97, 115, 121, 110, 99]]) (bad || !(T1 []).2) := by show PrAt base p w1 _ (bad || !true); rw [Bool.not_true, Bool.or_false]; exact h
  have P1 := hid (P0.out.put HS.out hdp h g (by decide))
  clear h g
  have l1 := P1.out.len
  have c10 : w1.cell? ⟨d, 10, none⟩ = some (.slice A3 body.length p3) := P1.out.bx.cell 10
  go_wp2_with (go_at_call 99; refine (pblock_any body hbody HS.out P1.out.sz P1.out.pr P1.out.rc P1.out.fm (by omega) (by omega)).mono ?_)
  rintro e w2 ⟨⟨x1, rfl⟩, h, g, l⟩
  have P2 := hid (P1.out.step HS.out hdp h g l)
  clear h g l
  have c0 : w2.cell? ⟨d, 0, none⟩ = some (.int .i64 4) := P2.out.bx.cell 0
  go_wp2
  go_end0
  exact ⟨⟨_, rfl⟩, P2.out.fin (tkS_async false s a b body els) (by omega)⟩
 by_cases h5 : k = 5
 ·subst h5
  have l0 := P0.out.len
  go_wp2_with (go_at_call 75; refine (put_new [bs [102, 105, 110, 105, 115, 104]] P0.out.pr P0.out.sz (by (have t : tsz [bs [102, 105, 110, 105, 115, 104]] ≤ 8 := by decide); omega)).mono ?_)
  rintro e w1 x0 rfl h g
  have h : PrAt base p w1 (putL (putL acc (T1 []).1) [bs [102, 105, 110, 105, 115, 104]]) (bad || !(T1 []).2) := by show PrAt base p w1 _ (bad || !true); rw [Bool.not_true, Bool.or_false]; exact h
  have P1 := hid (P0.out.put HS.out hdp h g (by decide))
  clear h g
  have l1 := P1.out.len
  have c10 : w1.cell? ⟨d, 10, none⟩ = some (.slice A3 body.length p3) := P1.out.bx.cell 10
  go_wp2_with (go_at_call 99; refine (pblock_any body hbody HS.out P1.out.sz P1.out.pr P1.out.rc P1.out.fm (by omega) (by omega)).mono ?_)
  rintro e w2 ⟨⟨x1, rfl⟩, h, g, l⟩
  have P2 := hid (P1.out.step HS.out hdp h g l)
  clear h g l
  have c0 : w2.cell? ⟨d, 0, none⟩ = some (.int .i64 5) := P2.out.bx.cell 0
  go_wp2
  go_end0
  exact ⟨⟨_, rfl⟩, P2.out.fin (tkS_finish false s a b body els) (by omega)⟩
 by_cases h6 : k = 6
 ·subst h6
  have l0 := P0.out.len
  go_wp2_with (go_at_call 75; refine (put_new [bs [105, 102]] P0.out.pr P0.out.sz (by (have t : tsz [bs [105, 102]] ≤ 8 := by decide); omega)).mono ?_)
  rintro e w1 x0 rfl h g
  have h : PrAt base p w1 (putL (putL acc (T1 []).1) [bs [105, 102]]) (bad || !(T1 []).2) := by show PrAt base p w1 _ (bad || !true); rw [Bool.not_true, Bool.or_false]; exact h
  have P1 := hid (P0.out.put HS.out hdp h g (by decide))
  clear h g
  have l1 := P1.out.len
  have c2 : w1.cell? ⟨d, 2, none⟩ = some (.int .i64 k1) := P1.out.bx.cell 2
  have c3 : w1.cell? ⟨d, 3, none⟩ = some (.int .i64 n1) := P1.out.bx.cell 3
  have c4 : w1.cell? ⟨d, 4, none⟩ = some (.string s1) := P1.out.bx.cell 4
  have c5 : w1.cell? ⟨d, 5, none⟩ = some (.slice A1 m1 p1) := P1.out.bx.cell 5
  go_wp2_with (go_at_call 77; refine (px_all a false base p _ S (exV k1 n1 s1 (.slice A1 m1 p1)) _ _ HS.out P1.out.sz P1.out.pr P1.out.ra P1.out.fm (by omega) (by omega)).mono ?_)
  rintro e w2 ⟨⟨x1, rfl⟩, h, g, l⟩
  have P2 := hid (P1.out.step HS.out hdp h g l)
  clear h g l
  have l2 := P2.out.len
  have c10 : w2.cell? ⟨d, 10, none⟩ = some (.slice A3 body.length p3) := P2.out.bx.cell 10
  go_wp2_with (go_at_call 99; refine (pblock_any body hbody HS.out P2.out.sz P2.out.pr P2.out.rc P2.out.fm (by omega) (by omega)).mono ?_)
  rintro e w3 ⟨⟨x2, rfl⟩, h, g, l⟩
  have P3 := hid (P2.out.step HS.out hdp h g l)
  clear h g l
  have c0 : w3.cell? ⟨d, 0, none⟩ = some (.int .i64 6) := P3.out.bx.cell 0
  have c11 : w3.cell? ⟨d, 11, none⟩ = some (.slice A4 els.length p4) := P3.out.bx.cell 11
  by_cases he : els.length = 0
  ·have he1 : ¬ (0 : Int) < (els.length : Int) := by omega
   go_wp2
   go_end0
   exact ⟨⟨_, rfl⟩, P3.out.fin (tkS_if0 false s a b body els he) (by omega)⟩
  ·have he1 : (0 : Int) < (els.length : Int) := by omega
   have he2 : 0 < els.length := by omega
   have l3 := P3.out.len
   go_wp2_with (go_at_call 75; refine (put_new [bs [101, 108, 115, 101]] P3.out.pr P3.out.sz (by (have t : tsz [bs [101, 108, 115, 101]] ≤ 8 := by decide); omega)).mono ?_)
   rintro e w4 ⟨⟨x3, rfl⟩, h, g⟩
   have P4 := hid (P3.out.put HS.out hdp h g (by decide))
   clear h g
   have l4 := P4.out.len
   have c11 : w4.cell? ⟨d, 11, none⟩ = some (.slice A4 els.length p4) := P4.out.bx.cell 11
   go_wp2_with (go_at_call 99; refine (pblock_any els hels HS.out P4.out.sz P4.out.pr P4.out.rd P4.out.fm (by omega) (by omega)).mono ?_)
   rintro e w5 ⟨⟨x4, rfl⟩, h, g, l⟩
   have P5 := hid (P4.out.step HS.out hdp h g l)
   clear h g l
   go_wp2
   go_end0
   exact ⟨⟨_, rfl⟩, P5.out.fin (tkS_if1 false s a b body els he) (by omega)⟩
 by_cases h7 : k = 7
 ·subst h7
  have l0 := P0.out.len
  go_wp2_with (go_at_call 75; refine (put_new [bs [102, 111, 114]] P0.out.pr P0.out.sz (by (have t : tsz [bs [102, 111, 114]] ≤ 8 := by decide); omega)).mono ?_)
  rintro e w1 x0 rfl h g
  have h : PrAt base p w1 (putL (putL acc (T1 []).1) [bs [102, 111, 114]]) (bad || !(T1 []).2) := by show PrAt base p w1 _ (bad || !true); rw [Bool.not_true, Bool.or_false]; exact h
  have P1 := hid (P0.out.put HS.out hdp h g (by decide))
  clear h g
  have l1 := P1.out.len
  have c1 : w1.cell? ⟨d, 1, none⟩ = some (.string s) := P1.out.bx.cell 1
  go_wp2_with (go_at_call 76; refine (pname_any s P1.out.pr (by omega) P1.out.sz (by omega)).mono ?_)
  rintro e w2 ⟨⟨x1, rfl⟩, h, g⟩
  have P2 := hid (P1.out.step HS.out hdp (m := tname s) (M := s.size + 1) h g (by show tsz [s] ≤ _; rw [tsz_one]; exact Nat.le_refl _))
  clear h g
  have l2 := P2.out.len
  go_wp2_with (go_at_call 75; refine (put_new [bs [61]] P2.out.pr P2.out.sz (by (have t : tsz [bs [61]] ≤ 8 := by decide); omega)).mono ?_)
  rintro e w3 ⟨⟨x2, rfl⟩, h, g⟩
  have P3 := hid (P2.out.put HS.out hdp h g (by decide))
  clear h g
  have l3 := P3.out.len
  have c2 : w3.cell? ⟨d, 2, none⟩ = some (.int .i64 k1) := P3.out.bx.cell 2
  have c3 : w3.cell? ⟨d, 3, none⟩ = some (.int .i64 n1) := P3.out.bx.cell 3
  have c4 : w3.cell? ⟨d, 4, none⟩ = some (.string s1) := P3.out.bx.cell 4
  have c5 : w3.cell? ⟨d, 5, none⟩ = some (.slice A1 m1 p1) := P3.out.bx.cell 5
  go_wp2_with (go_at_call 77; refine (px_all a false base p _ S (exV k1 n1 s1 (.slice A1 m1 p1)) _ _ HS.out P3.out.sz P3.out.pr P3.out.ra P3.out.fm (by omega) (by omega)).mono ?_)
  rintro e w4 ⟨⟨x3, rfl⟩, h, g, l⟩
  have P4 := hid (P3.out.step HS.out hdp h g l)
  clear h g l
  have l4 := P4.out.len
  go_wp2_with (go_at_call 75; refine (put_new [bs [116, 111]] P4.out.pr P4.out.sz (by (have t : tsz [bs [116, 111]] ≤ 8 := by decide); omega)).mono ?_)
  rintro e w5 ⟨⟨x4, rfl⟩, h, g⟩
  have P5 := hid (P4.out.put HS.out hdp h g (by decide))
  clear h g
  have l5 := P5.out.len
  have c6 : w5.cell? ⟨d, 6, none⟩ = some (.int .i64 k2) := P5.out.bx.cell 6
  have c7 : w5.cell? ⟨d, 7, none⟩ = some (.int .i64 n2) := P5.out.bx.cell 7
  have c8 : w5.cell? ⟨d, 8, none⟩ = some (.string s2) := P5.out.bx.cell 8
  have c9 : w5.cell? ⟨d, 9, none⟩ = some (.slice A2 m2 p2) := P5.out.bx.cell 9
  go_wp2_with (go_at_call 77; refine (px_all b false base p _ S (exV k2 n2 s2 (.slice A2 m2 p2)) _ _ HS.out P5.out.sz P5.out.pr P5.out.rb P5.out.fm (by omega) (by omega)).mono ?_)
  rintro e w6 ⟨⟨x5, rfl⟩, h, g, l⟩
  have P6 := hid (P5.out.step HS.out hdp h g l)
  clear h g l
  have l6 := P6.out.len
  have c10 : w6.cell? ⟨d, 10, none⟩ = some (.slice A3 body.length p3) := P6.out.bx.cell 10
  go_wp2_with (go_at_call 99; refine (pblock_any body hbody HS.out P6.out.sz P6.out.pr P6.out.rc P6.out.fm (by omega) (by omega)).mono ?_)
  rintro e w7 ⟨⟨x6, rfl⟩, h, g, l⟩
  have P7 := hid (P6.out.step HS.out hdp h g l)
  clear h g l
  have c0 : w7.cell? ⟨d, 0, none⟩ = some (.int .i64 7) := P7.out.bx.cell 0
  go_wp2
  go_end0
  exact ⟨⟨_, rfl⟩, P7.out.fin (tkS_for false s a b body els) (by omega)⟩
 obtain ⟨b0, b1, b2, b3⟩ := pr_bad P0.out.pr
 have hn := tkS_no false s a b body els (show k < 1 ∨ 7 < k by omega)
 have HB := hid (show PrAt base p (W.setCell ⟨p, 2, none⟩ (.bool true)) (putL acc (tkS false (.mk k s a b body els)).1) (bad || !(tkS false (.mk k s a b body els)).2) ∧ PrGo base p w (W.setCell ⟨p, 2, none⟩ (.bool true)) ∧ tsz (tkS false (.mk k s a b body els)).1 ≤ 64 * WN from by rw [hn, Bool.not_false, Bool.or_true]; exact ⟨b2, P0.out.go.trans b3, Nat.zero_le _⟩)
 have e4 : (k == 4) = false := by simpa using h4
 have e5 : (k == 5) = false := by simpa using h5
 have e6 : (k == 6) = false := by simpa using h6
 have e7 : (k == 7) = false := by simpa using h7
 clear b2 b3 hn
 go_wp2
 (try simp only [Exit.inBlock, Exit.then]); refine bodyPost_ret (results_none rfl _ _ _) rfl ?_
 exact ⟨⟨_, rfl⟩, HB.out⟩
set_option maxHeartbeats 4000000 in
set_option maxRecDepth 100000 in
theorem pstmt_any (k : Int) (s : Str) (a b : Ex) (body els : List St) (hbody : PxL body) (hels : PxL els) : PxS 46 k s a b body els := by
 intro base p w S acc bad k1 n1 s1 A1 m1 p1 k2 n2 s2 A2 m2 p2 A3 p3 A4 p4 hS hb h ra rb rc rd hF hwt hlen
 have hbl : Below w.heap.size w (w.alloc (.cells #[.int .i64 k, .string s, .int .i64 k1, .int .i64 n1, .string s1, .slice A1 m1 p1, .int .i64 k2, .int .i64 n2, .string s2, .slice A2 m2 p2, .slice A3 body.length p3, .slice A4 els.length p4] 82)) := (Below.refl _ _).alloc (Nat.le_refl _) _
 have P0 := hid (show PSt base p w.heap.size S #[.int .i64 k, .string s, .int .i64 k1, .int .i64 n1, .string s1, .slice A1 m1 p1, .int .i64 k2, .int .i64 n2, .string s2, .slice A2 m2 p2, .slice A3 body.length p3, .slice A4 els.length p4] a b body els (exV k1 n1 s1 (.slice A1 m1 p1)) (exV k2 n2 s2 (.slice A2 m2 p2)) (.slice A3 body.length p3) (.slice A4 els.length p4) w acc bad (w.alloc (.cells #[.int .i64 k, .string s, .int .i64 k1, .int .i64 n1, .string s1, .slice A1 m1 p1, .int .i64 k2, .int .i64 n2, .string s2, .slice A2 m2 p2, .slice A3 body.length p3, .slice A4 els.length p4] 82)) (T1 []) 0 from
  ⟨by rw [Bool.not_true, Bool.or_false]; exact h.below hbl, BoxIs.made w _ _, PrGo.of_below hbl hb, hF.next (hbl.mono hb), ra.go (hbl.mono hb) hS, rb.go (hbl.mono hb) hS, rc.go RdSt.keeps (hbl.mono hb) hS (Sub.refl _), rd.go RdSt.keeps (hbl.mono hb) hS (Sub.refl _), Nat.le_trans hb hbl.size, Nat.zero_le _⟩)
 have hdp : w.heap.size ≠ p := by have := h.lt; omega
 have HS := hid hS
 simp only [St.wt] at hwt hlen ⊢
 obtain ⟨WN, hWN⟩ : ∃ WN, WN = 1 + s.size + a.wt + b.wt + St.wts body + St.wts els := ⟨_, rfl⟩
 rw [← hWN] at hwt hlen ⊢
 have HWN := hid hWN
 have hWN1 : 1 + s.size + a.wt + b.wt + St.wts body + St.wts els ≤ WN := by omega
 clear hWN
 clear h hF hbl ra rb rc rd hS hb
 go_enter Tryz.func46, Tryz.ntmps46
 go_upto_region 1 with (fail)
 generalize (w.alloc (.cells #[.int .i64 k, .string s, .int .i64 k1, .int .i64 n1, .string s1, .slice A1 m1 p1, .int .i64 k2, .int .i64 n2, .string s2, .slice A2 m2 p2, .slice A3 body.length p3, .slice A4 els.length p4] 82)) = W at *
 generalize w.heap.size = d at *
 have c0 : W.cell? ⟨d, 0, none⟩ = some (.int .i64 k) := P0.out.bx.cell 0
 by_cases h1 : k = 1
 ·subst h1
  have l0 := P0.out.len
  go_wp2_with (go_at_call 75; refine (put_new [bs [108, 101, 116]] P0.out.pr P0.out.sz (by (have t : tsz [bs [108, 101, 116]] ≤ 8 := by decide); omega)).mono ?_)
  rintro e w1 x0 rfl h g
  have h : PrAt base p w1 (putL (putL acc (T1 []).1) [bs [108, 101, 116]]) (bad || !(T1 []).2) := by show PrAt base p w1 _ (bad || !true); rw [Bool.not_true, Bool.or_false]; exact h
  have P1 := hid (P0.out.put HS.out hdp h g (by decide))
  clear h g
  have l1 := P1.out.len
  have c1 : w1.cell? ⟨d, 1, none⟩ = some (.string s) := P1.out.bx.cell 1
  go_wp2_with (go_at_call 76; refine (pname_any s P1.out.pr (by omega) P1.out.sz (by omega)).mono ?_)
  rintro e w2 ⟨⟨x1, rfl⟩, h, g⟩
  have P2 := hid (P1.out.step HS.out hdp (m := tname s) (M := s.size + 1) h g (by show tsz [s] ≤ _; rw [tsz_one]; exact Nat.le_refl _))
  clear h g
  have l2 := P2.out.len
  go_wp2_with (go_at_call 75; refine (put_new [bs [61]] P2.out.pr P2.out.sz (by (have t : tsz [bs [61]] ≤ 8 := by decide); omega)).mono ?_)
  rintro e w3 ⟨⟨x2, rfl⟩, h, g⟩
  have P3 := hid (P2.out.put HS.out hdp h g (by decide))
  clear h g
  have l3 := P3.out.len
  have c2 : w3.cell? ⟨d, 2, none⟩ = some (.int .i64 k1) := P3.out.bx.cell 2
  have c3 : w3.cell? ⟨d, 3, none⟩ = some (.int .i64 n1) := P3.out.bx.cell 3
  have c4 : w3.cell? ⟨d, 4, none⟩ = some (.string s1) := P3.out.bx.cell 4
  have c5 : w3.cell? ⟨d, 5, none⟩ = some (.slice A1 m1 p1) := P3.out.bx.cell 5
  go_wp2_with (go_at_call 77; refine (px_all a false base p _ S (exV k1 n1 s1 (.slice A1 m1 p1)) _ _ HS.out P3.out.sz P3.out.pr P3.out.ra P3.out.fm (by omega) (by omega)).mono ?_)
  rintro e w4 ⟨⟨x3, rfl⟩, h, g, l⟩
  have P4 := hid (P3.out.step HS.out hdp h g l)
  clear h g l
  have l4 := P4.out.len
  go_wp2_with (go_at_call 75; refine (put_new [bs [59]] P4.out.pr P4.out.sz (by (have t : tsz [bs [59]] ≤ 8 := by decide); omega)).mono ?_)
  rintro e w5 ⟨⟨x4, rfl⟩, h, g⟩
  have P5 := hid (P4.out.put HS.out hdp h g (by decide))
  clear h g
  go_wp2
  go_end0
  exact ⟨⟨_, rfl⟩, P5.out.fin (tkS_let false s a b body els) (by omega)⟩
 by_cases h2 : k = 2
 ·subst h2
  have l0 := P0.out.len
  go_wp2_with (go_at_call 75; refine (put_new [bs [108, 111, 97, 100]] P0.out.pr P0.out.sz (by (have t : tsz [bs [108, 111, 97, 100]] ≤ 8 := by decide); omega)).mono ?_)
  rintro e w1 x0 rfl h g
  have h : PrAt base p w1 (putL (putL acc (T1 []).1) [bs [108, 111, 97, 100]]) (bad || !(T1 []).2) := by show PrAt base p w1 _ (bad || !true); rw [Bool.not_true, Bool.or_false]; exact h
  have P1 := hid (P0.out.put HS.out hdp h g (by decide))
  clear h g
  have l1 := P1.out.len
  have c1 : w1.cell? ⟨d, 1, none⟩ = some (.string s) := P1.out.bx.cell 1
  go_wp2_with (go_at_call 76; refine (pname_any s P1.out.pr (by omega) P1.out.sz (by omega)).mono ?_)
  rintro e w2 ⟨⟨x1, rfl⟩, h, g⟩
  have P2 := hid (P1.out.step HS.out hdp (m := tname s) (M := s.size + 1) h g (by show tsz [s] ≤ _; rw [tsz_one]; exact Nat.le_refl _))
  clear h g
  have l2 := P2.out.len
  go_wp2_with (go_at_call 75; refine (put_new [bs [61], bs [91]] P2.out.pr P2.out.sz (by (have t : tsz [bs [61], bs [91]] ≤ 8 := by decide); omega)).mono ?_)
  rintro e w3 ⟨⟨x2, rfl⟩, h, g⟩
  have P3 := hid (P2.out.put HS.out hdp h g (by decide))
  clear h g
  have l3 := P3.out.len
  have c2 : w3.cell? ⟨d, 2, none⟩ = some (.int .i64 k1) := P3.out.bx.cell 2
  have c3 : w3.cell? ⟨d, 3, none⟩ = some (.int .i64 n1) := P3.out.bx.cell 3
  have c4 : w3.cell? ⟨d, 4, none⟩ = some (.string s1) := P3.out.bx.cell 4
  have c5 : w3.cell? ⟨d, 5, none⟩ = some (.slice A1 m1 p1) := P3.out.bx.cell 5
  go_wp2_with (go_at_call 77; refine (px_all a false base p _ S (exV k1 n1 s1 (.slice A1 m1 p1)) _ _ HS.out P3.out.sz P3.out.pr P3.out.ra P3.out.fm (by omega) (by omega)).mono ?_)
  rintro e w4 ⟨⟨x3, rfl⟩, h, g, l⟩
  have P4 := hid (P3.out.step HS.out hdp h g l)
  clear h g l
  have l4 := P4.out.len
  go_wp2_with (go_at_call 75; refine (put_new [bs [93], bs [59]] P4.out.pr P4.out.sz (by (have t : tsz [bs [93], bs [59]] ≤ 8 := by decide); omega)).mono ?_)
  rintro e w5 ⟨⟨x4, rfl⟩, h, g⟩
  have P5 := hid (P4.out.put HS.out hdp h g (by decide))
  clear h g
  go_wp2
  go_end0
  exact ⟨⟨_, rfl⟩, P5.out.fin (tkS_load false s a b body els) (by omega)⟩
 by_cases h3 : k = 3
 ·subst h3
  have l0 := P0.out.len
  go_wp2_with (go_at_call 75; refine (put_new [bs [115, 116, 111, 114, 101], bs [91]] P0.out.pr P0.out.sz (by (have t : tsz [bs [115, 116, 111, 114, 101], bs [91]] ≤ 8 := by decide); omega)).mono ?_)
  rintro e w1 x0 rfl h g
  have h : PrAt base p w1 (putL (putL acc (T1 []).1) [bs [115, 116, 111, 114, 101], bs [91]]) (bad || !(T1 []).2) := by show PrAt base p w1 _ (bad || !true); rw [Bool.not_true, Bool.or_false]; exact h
  have P1 := hid (P0.out.put HS.out hdp h g (by decide))
  clear h g
  have l1 := P1.out.len
  have c2 : w1.cell? ⟨d, 2, none⟩ = some (.int .i64 k1) := P1.out.bx.cell 2
  have c3 : w1.cell? ⟨d, 3, none⟩ = some (.int .i64 n1) := P1.out.bx.cell 3
  have c4 : w1.cell? ⟨d, 4, none⟩ = some (.string s1) := P1.out.bx.cell 4
  have c5 : w1.cell? ⟨d, 5, none⟩ = some (.slice A1 m1 p1) := P1.out.bx.cell 5
  go_wp2_with (go_at_call 77; refine (px_all a false base p _ S (exV k1 n1 s1 (.slice A1 m1 p1)) _ _ HS.out P1.out.sz P1.out.pr P1.out.ra P1.out.fm (by omega) (by omega)).mono ?_)
  rintro e w2 ⟨⟨x1, rfl⟩, h, g, l⟩
  have P2 := hid (P1.out.step HS.out hdp h g l)
  clear h g l
  have l2 := P2.out.len
  go_wp2_with (go_at_call 75; refine (put_new [bs [93], bs [61]] P2.out.pr P2.out.sz (by (have t : tsz [bs [93], bs [61]] ≤ 8 := by decide); omega)).mono ?_)
  rintro e w3 ⟨⟨x2, rfl⟩, h, g⟩
  have P3 := hid (P2.out.put HS.out hdp h g (by decide))
  clear h g
  have l3 := P3.out.len
  have c6 : w3.cell? ⟨d, 6, none⟩ = some (.int .i64 k2) := P3.out.bx.cell 6
  have c7 : w3.cell? ⟨d, 7, none⟩ = some (.int .i64 n2) := P3.out.bx.cell 7
  have c8 : w3.cell? ⟨d, 8, none⟩ = some (.string s2) := P3.out.bx.cell 8
  have c9 : w3.cell? ⟨d, 9, none⟩ = some (.slice A2 m2 p2) := P3.out.bx.cell 9
  go_wp2_with (go_at_call 77; refine (px_all b false base p _ S (exV k2 n2 s2 (.slice A2 m2 p2)) _ _ HS.out P3.out.sz P3.out.pr P3.out.rb P3.out.fm (by omega) (by omega)).mono ?_)
  rintro e w4 ⟨⟨x3, rfl⟩, h, g, l⟩
  have P4 := hid (P3.out.step HS.out hdp h g l)
  clear h g l
  have l4 := P4.out.len
  go_wp2_with (go_at_call 75; refine (put_new [bs [59]] P4.out.pr P4.out.sz (by (have t : tsz [bs [59]] ≤ 8 := by decide); omega)).mono ?_)
  rintro e w5 ⟨⟨x4, rfl⟩, h, g⟩
  have P5 := hid (P4.out.put HS.out hdp h g (by decide))
  clear h g
  go_wp2
  go_end0
  exact ⟨⟨_, rfl⟩, P5.out.fin (tkS_store false s a b body els) (by omega)⟩
 have e1 : (k == 1) = false := by simpa using h1
 have e2 : (k == 2) = false := by simpa using h2
 have e3 : (k == 3) = false := by simpa using h3
 have c1 : W.cell? ⟨d, 1, none⟩ = some (.string s) := P0.out.bx.cell 1
 have c2 : W.cell? ⟨d, 2, none⟩ = some (.int .i64 k1) := P0.out.bx.cell 2
 have c3 : W.cell? ⟨d, 3, none⟩ = some (.int .i64 n1) := P0.out.bx.cell 3
 have c4 : W.cell? ⟨d, 4, none⟩ = some (.string s1) := P0.out.bx.cell 4
 have c5 : W.cell? ⟨d, 5, none⟩ = some (.slice A1 m1 p1) := P0.out.bx.cell 5
 have c6 : W.cell? ⟨d, 6, none⟩ = some (.int .i64 k2) := P0.out.bx.cell 6
 have c7 : W.cell? ⟨d, 7, none⟩ = some (.int .i64 n2) := P0.out.bx.cell 7
 have c8 : W.cell? ⟨d, 8, none⟩ = some (.string s2) := P0.out.bx.cell 8
 have c9 : W.cell? ⟨d, 9, none⟩ = some (.slice A2 m2 p2) := P0.out.bx.cell 9
 have c10 : W.cell? ⟨d, 10, none⟩ = some (.slice A3 body.length p3) := P0.out.bx.cell 10
 have c11 : W.cell? ⟨d, 11, none⟩ = some (.slice A4 els.length p4) := P0.out.bx.cell 11
 go_wp2_with (go_at_call 78; refine (pnested_any k s a b body els ⟨h1, h2, h3⟩ hbody hels base p _ S acc bad k1 n1 s1 A1 m1 p1 k2 n2 s2 A2 m2 p2 A3 p3 A4 p4 HS.out P0.out.sz (by have q := P0.out.pr; rwa [Bool.not_true, Bool.or_false] at q) P0.out.ra P0.out.rb P0.out.rc P0.out.rd P0.out.fm (by rw [St.wt, ← HWN.out]; exact hwt) (by rw [St.wt, ← HWN.out]; exact hlen)).mono ?_)
 rintro e w1 ⟨⟨x1, rfl⟩, h, g, l⟩
 rw [St.wt, ← HWN.out] at l
 have HH := hid (And.intro h (And.intro (P0.out.go.trans g) l))
 clear h g l
 go_wp2
 go_end0
 exact ⟨⟨_, rfl⟩, HH.out⟩
end Go.Proofs.YtnpgpcnkdocknaaGreatDoor
