/- The walk of the looker's block. -/
import Derived.Test.YtnpgpcnkdocknaaDoorMp1
import Derived.Test.YtnpgpcnkdocknaaDoorGBsWs
import Derived.Test.YtnpgpcnkdocknaaDoorGLbT
namespace Go.Proofs.YtnpgpcnkdocknaaDoor
open Go.RowKit
set_option linter.unusedVariables false
theorem mixB_or (A C B : Nat → Bool) (i j : Nat) : mixB (fun n => A n || C n) B i j = (mixB A B i j || mixB C B i j) := by
  refine bool_ext ?_
  simp only [Bool.or_eq_true, mixB_iff]
  constructor
  · rintro ⟨h0, ⟨h1 | h1, h2⟩ | ⟨h1 | h1, h2⟩⟩
    · exact .inl ⟨h0, .inl ⟨h1, h2⟩⟩
    · exact .inr ⟨h0, .inl ⟨h1, h2⟩⟩
    · exact .inl ⟨h0, .inr ⟨h1, h2⟩⟩
    · exact .inr ⟨h0, .inr ⟨h1, h2⟩⟩
  · rintro (⟨h0, ⟨h1, h2⟩ | ⟨h1, h2⟩⟩ | ⟨h0, ⟨h1, h2⟩ | ⟨h1, h2⟩⟩)
    · exact ⟨h0, .inl ⟨.inl h1, h2⟩⟩
    · exact ⟨h0, .inr ⟨.inl h1, h2⟩⟩
    · exact ⟨h0, .inl ⟨.inr h1, h2⟩⟩
    · exact ⟨h0, .inr ⟨.inr h1, h2⟩⟩
theorem mixB_rng (A : Nat → Bool) (a m k i j : Nat) : mixB A (rngB a (m + k)) i j = (mixB A (rngB a m) i j || mixB A (rngB (a + m) k) i j) := by
  refine bool_ext ?_
  simp only [Bool.or_eq_true, mixB_iff, rngB_iff]
  have e1 : ∀ x, (a ≤ x ∧ x < a + (m + k)) ↔ ((a ≤ x ∧ x < a + m) ∨ (a + m ≤ x ∧ x < a + m + k)) := fun x => by omega
  rw [e1 i, e1 j]
  constructor
  · rintro ⟨h0, ⟨h1, h2 | h2⟩ | ⟨h1, h2 | h2⟩⟩
    · exact .inl ⟨h0, .inl ⟨h1, h2⟩⟩
    · exact .inr ⟨h0, .inl ⟨h1, h2⟩⟩
    · exact .inl ⟨h0, .inr ⟨h1, h2⟩⟩
    · exact .inr ⟨h0, .inr ⟨h1, h2⟩⟩
  · rintro (⟨h0, ⟨h1, h2⟩ | ⟨h1, h2⟩⟩ | ⟨h0, ⟨h1, h2⟩ | ⟨h1, h2⟩⟩)
    · exact ⟨h0, .inl ⟨h1, .inl h2⟩⟩
    · exact ⟨h0, .inr ⟨h1, .inl h2⟩⟩
    · exact ⟨h0, .inl ⟨h1, .inr h2⟩⟩
    · exact ⟨h0, .inr ⟨h1, .inr h2⟩⟩
theorem mixB_none (B : Nat → Bool) (i j : Nat) : mixB (fun _ => false) B i j = false := by unfold mixB; simp
theorem mixB_rng0 (A : Nat → Bool) (a i j : Nat) : mixB A (rngB a 0) i j = false := by
  unfold mixB; simp [rngB_zero]
/-- what stands in the row of sets behind a list of statements -/
def bkR (R : Nat → Nat → Bool) (PO : Nat → Bool) (l : List St) (at_ i j : Nat) : Bool := R i j || prL l at_ i j || mixB PO (rngB at_ (labelsL l)) i j
theorem bkR_nil (R : Nat → Nat → Bool) (PO : Nat → Bool) (at_ i j : Nat) : bkR R PO [] at_ i j = R i j := by
  unfold bkR; rw [prL, labelsL, mixB_rng0]; simp
theorem bkR_none (R : Nat → Nat → Bool) (l : List St) (at_ i j : Nat) : bkR R (fun _ => false) l at_ i j = (R i j || prL l at_ i j) := by
  unfold bkR; rw [mixB_none, Bool.or_false]
theorem bkR_step (R : Nat → Nat → Bool) (PO : Nat → Bool) (l : List St) (s : St) (at_ i j : Nat) : (bkR R PO l at_ i j || mixB (fun n => PO n || opL l at_ n) (rngB (at_ + labelsL l) (labelsS s)) i j || prS s (at_ + labelsL l) i j) = bkR R PO (l ++ [s]) at_ i j := by
  unfold bkR
  rw [prL_snoc, labelsL_snoc, mixB_or, mixB_rng]
  cases R i j <;> cases prL l at_ i j <;> cases mixB PO (rngB at_ (labelsL l)) i j <;> cases mixB PO (rngB (at_ + labelsL l) (labelsS s)) i j <;> cases mixB (opL l at_) (rngB (at_ + labelsL l) (labelsS s)) i j <;> cases prS s (at_ + labelsL l) i j <;> rfl
/-- what a call of block owes -/
def BkC (b g N : Nat) (l : List St) : Prop := ∀ (at_ : Nat) (R : Nat → Nat → Bool) (PO : Nat → Bool) (L : List Nat) (w : World) (S T : Blocks) (v vo : Value), Sub S (Upto w.heap.size) → ¬ S g → RdSts w S l v → St.wts l ≤ 1048576 → at_ + labelsL l ≤ N → SetIs L PO → (∀ i, PO i = true → i < N) → RdU w T L vo → Sub T (Upto w.heap.size) → ¬ T g → Tab w → Lk b g N R w →
  Calls Tryd.prog 12 #[.pointer (some ⟨b, 0, none⟩), v, .int .i64 at_, vo] w fun e w' => ∃ L' u T', e = .returned u ∧ SetIs L' (fun i => PO i || opL l at_ i) ∧ RdU w' T' L' u ∧ Sub T' (Upto w'.heap.size) ∧ ¬ T' g ∧ Lk b g N (bkR R PO l at_) w' ∧ But (Is g) w w'
/-- how things stand behind q statements -/
structure BkAt (b g N : Nat) (R : Nat → Nat → Bool) (PO : Nat → Bool) (l : List St) (at_ : Nat) (w wr : World) (T : Blocks) (L : List Nat) (u : Value) : Prop where
  set : SetIs L (fun i => PO i || opL l at_ i)
  rd : RdU wr T L u
  sub : Sub T (Upto wr.heap.size)
  ng : ¬ T g
  lk : Lk b g N (bkR R PO l at_) wr
  but : But (Is g) w wr
/-- a round, in a world -/
structure BkW (b g N : Nat) (S T : Blocks) (d : Nat) (cs : List Value) (body els : List St) (v1 v2 : Value) (L : List Nat) (op : Value) (w W : World) (R : Nat → Nat → Bool) : Prop where
  bx : Blk 0 W d cs
  r1 : RdSts W S body v1
  r2 : RdSts W S els v2
  hS : Sub S (Upto W.heap.size)
  ro : RdU W T L op
  hT : Sub T (Upto W.heap.size)
  but : But (Is g) w W
  tab : Tab W
  lk : Lk b g N R W
section
variable {b g N : Nat} {S T : Blocks} {d : Nat} {cs : List Value} {body els : List St} {v1 v2 : Value} {L : List Nat} {op : Value} {w W W' : World} {R Q : Nat → Nat → Bool}
theorem BkW.step (h : BkW b g N S T d cs body els v1 v2 L op w W R) (hdg : d ≠ g) (hS : ∀ k, S k → ¬ Is g k) (hT : ∀ k, T k → ¬ Is g k) (hgt : 0 ≠ g) (hb : But (Is g) W W') (hl : Lk b g N Q W') : BkW b g N S T d cs body els v1 v2 L op w W' Q :=
  ⟨h.bx.but hb (fun e => hdg e), h.r1.keep RdSt.keeps (Sub.refl _) (hb.same h.hS hS), h.r2.keep RdSt.keeps (Sub.refl _) (hb.same h.hS hS), h.hS.trans (Sub.upto hb.size), h.ro.keep Flat.keeps (Sub.refl _) (hb.same h.hT hT), h.hT.trans (Sub.upto hb.size), h.but.trans hb, h.tab.but hb (fun e => hgt e), hl⟩
theorem BkW.below (h : BkW b g N S T d cs body els v1 v2 L op w W R) (hdg : d ≠ g) (hS : ∀ k, S k → ¬ Is g k) (hT : ∀ k, T k → ¬ Is g k) (hgt : 0 ≠ g) (hb : Below W.heap.size W W') : BkW b g N S T d cs body els v1 v2 L op w W' R :=
  h.step hdg hS hT hgt (But.of_below hb) (h.lk.below hb)
end
set_option maxHeartbeats 4000000 in
set_option maxRecDepth 100000 in
theorem block_one (b g N : Nat) (hN : N ≤ 65535) (hgt : 0 ≠ g) (l : List St) (h : ∀ k s a c body els, St.mk k s a c body els ∈ l → BkC b g N body ∧ BkC b g N els) : BkC b g N l := by
  intro at_ R PO L0 w S T0 v vo hS hSg r hwl hat hL0 hPO r0 hT0 hTg hTb hLk
  obtain ⟨A, cap, rfl, hl, hcm, hby⟩ := r.form
  unfold maxLen at hcm
  have H := Lib.hid h
  have RR := Lib.hid r
  have HS := Lib.hid hS
  have HP0 := Lib.hid hPO
  have HNG := Lib.hid (show ∀ k, S k → ¬ Is g k from fun k hk e => hSg (by unfold Is at e; exact e ▸ hk))
  have TB := Lib.hid hTb
  have hgw : g < w.heap.size := hLk.2.2.choose_spec.out.lt
  have B0 := Lib.hid (show BkAt b g N R PO [] at_ w w T0 L0 vo from ⟨hL0.congr (fun i => by rw [opL, Bool.or_false]), r0, hT0, hTg, hLk.congr (fun i j _ => (bkR_nil R PO at_ i j).symm), But.refl _ _⟩)
  have HLT := Lib.hid (labels_take l)
  clear h r hS hPO hL0 r0 hT0 hTg hTb hLk
  go_enter Tryd.func12, Tryd.ntmps12
  go_wp2_with fail
  go_loopw [2, 3, 17] (fun la op' t wr => ∃ (q : Nat) (T : Blocks) (L : List Nat) (op : Value), op = op' ∧ q ≤ l.length ∧ t = .int .i64 q ∧ la = .int .i64 ((at_ : Int) + (labelsL (l.take q) : Int)) ∧ Hid (BkAt b g N R PO (l.take q) at_ w wr T L op)) (fun _ _ t _ => l.length - (intOf t).toNat)
  case atStart => exact ⟨0, T0, L0, _, rfl, by omega, rfl, (by rw [List.take_zero, labelsL]; simp), B0⟩
  case round =>
    obtain ⟨q, T, L, op, rfl, hq, rfl, rfl, BA⟩ := hrel
    clear B0
    have hbel := BA.out.but
    by_cases hlt : q < l.length
    · have hwr := hbel.size
      obtain ⟨b0, off, cs, rfl, hb, hcl, hcell, hrd⟩ := (RR.out.keep RdSt.keeps (Sub.refl _) (hbel.same HS.out HNG.out)).at_ hlt
      have hb0 : b0 < wr.heap.size := Nat.lt_of_lt_of_le (HS.out _ hb) hwr
      have hmem := List.getElem_mem hlt
      have htk : l.take (q + 1) = l.take q ++ [l[q]] := by rw [List.take_succ_eq_append_getElem hlt]
      have hwq := wts_take l hlt
      have hlt2 := HLT.out (q + 1)
      obtain ⟨st, hst⟩ : ∃ st, l[q] = st := ⟨_, rfl⟩
      rw [hst] at hrd hmem htk hwq
      have HRD := Lib.hid hrd
      obtain ⟨k, s, a, c, body, els⟩ := st
      obtain ⟨k1, n1, s1, A1, m1, p1, k2, n2, s2, A2, m2, p2, A3, p3, A4, p4, rfl, hk, hs, ra, rb, rv, rv'⟩ := hrd.cells
      have e0 : wr.cell? ⟨b0, off + q * 12, none⟩ = some _ := hcell 0 _ rfl
      have e1 : wr.cell? ⟨b0, off + q * 12 + 1, none⟩ = some _ := hcell 1 _ rfl; have e2 : wr.cell? ⟨b0, off + q * 12 + 2, none⟩ = some _ := hcell 2 _ rfl; have e3 : wr.cell? ⟨b0, off + q * 12 + 3, none⟩ = some _ := hcell 3 _ rfl; have e4 : wr.cell? ⟨b0, off + q * 12 + 4, none⟩ = some _ := hcell 4 _ rfl; have e5 : wr.cell? ⟨b0, off + q * 12 + 5, none⟩ = some _ := hcell 5 _ rfl; have e6 : wr.cell? ⟨b0, off + q * 12 + 6, none⟩ = some _ := hcell 6 _ rfl; have e7 : wr.cell? ⟨b0, off + q * 12 + 7, none⟩ = some _ := hcell 7 _ rfl; have e8 : wr.cell? ⟨b0, off + q * 12 + 8, none⟩ = some _ := hcell 8 _ rfl; have e9 : wr.cell? ⟨b0, off + q * 12 + 9, none⟩ = some _ := hcell 9 _ rfl; have e10 : wr.cell? ⟨b0, off + q * 12 + 10, none⟩ = some _ := hcell 10 _ rfl; have e11 : wr.cell? ⟨b0, off + q * 12 + 11, none⟩ = some _ := hcell 11 _ rfl
      rw [htk, labelsL_snoc] at hlt2
      have HTK := Lib.hid htk
      have HLS := Lib.hid (show labelsL (l.take (q + 1)) = labelsL (l.take q) + labelsS (.mk k s a c body els) by rw [htk, labelsL_snoc])
      rw [St.wt] at hwq
      have HIB := Lib.hid (H.out _ _ _ _ _ _ hmem)
      have hx3 : St.wts body ≤ 1048576 := by omega
      have hx4 : St.wts els ≤ 1048576 := by omega
      have hx5 : St.wts [.mk k s a c body els] ≤ 1048576 := by simp only [St.wts, St.wt]; omega
      have hb1 : Below wr.heap.size wr (wr.alloc (.cells #[.int .i64 k, .string s, .int .i64 k1, .int .i64 n1, .string s1, .slice A1 m1 p1, .int .i64 k2, .int .i64 n2, .string s2, .slice A2 m2 p2, .slice A3 body.length p3, .slice A4 els.length p4] 39)) := (Below.refl _ _).alloc (Nat.le_refl _) _
      have hsu : Sub S (Upto wr.heap.size) := HS.out.trans (Sub.upto hwr)
      have BX := Lib.hid (Blk.made wr [.int .i64 k, .string s, .int .i64 k1, .int .i64 n1, .string s1, .slice A1 m1 p1, .int .i64 k2, .int .i64 n2, .string s2, .slice A2 m2 p2, .slice A3 body.length p3, .slice A4 els.length p4] 39 (base := 0) (Nat.zero_le _))
      have HSW := Lib.hid (show Sub S (Upto ((wr.alloc (.cells #[.int .i64 k, .string s, .int .i64 k1, .int .i64 n1, .string s1, .slice A1 m1 p1, .int .i64 k2, .int .i64 n2, .string s2, .slice A2 m2 p2, .slice A3 body.length p3, .slice A4 els.length p4] 39))).heap.size) from hsu.trans (Sub.upto hb1.size))
      have R1 := Lib.hid (rv.go RdSt.keeps hb1 hsu (Sub.refl _))
      have R2 := Lib.hid (rv'.go RdSt.keeps hb1 hsu (Sub.refl _))
      have HLO := Lib.hid (labelsOf_one (w := (wr.alloc (.cells #[.int .i64 k, .string s, .int .i64 k1, .int .i64 n1, .string s1, .slice A1 m1 p1, .int .i64 k2, .int .i64 n2, .string s2, .slice A2 m2 p2, .slice A3 body.length p3, .slice A4 els.length p4] 39))) HRD.out (same_of_below hb1 hsu) HSW.out hcl hx5 rfl)
      have BB := Lib.hid (BA.out.but.trans (But.of_below hb1))
      have B1 := Lib.hid (show BkAt b g N R PO (l.take q) at_ w (wr.alloc (.cells #[.int .i64 k, .string s, .int .i64 k1, .int .i64 n1, .string s1, .slice A1 m1 p1, .int .i64 k2, .int .i64 n2, .string s2, .slice A2 m2 p2, .slice A3 body.length p3, .slice A4 els.length p4] 39)) T L op from ⟨BA.out.set, BA.out.rd.keep Flat.keeps (Sub.refl _) (same_of_below hb1 BA.out.sub), BA.out.sub.trans (Sub.upto hb1.size), BA.out.ng, BA.out.lk.below hb1, BB.out⟩)
      have hwz0 : wr.heap.size < ((wr.alloc (.cells #[.int .i64 k, .string s, .int .i64 k1, .int .i64 n1, .string s1, .slice A1 m1 p1, .int .i64 k2, .int .i64 n2, .string s2, .slice A2 m2 p2, .slice A3 body.length p3, .slice A4 els.length p4] 39))).heap.size := by simp
      have HSZ := Lib.hid (show ((wr.alloc (.cells #[.int .i64 k, .string s, .int .i64 k1, .int .i64 n1, .string s1, .slice A1 m1 p1, .int .i64 k2, .int .i64 n2, .string s2, .slice A2 m2 p2, .slice A3 body.length p3, .slice A4 els.length p4] 39))).heap.size = wr.heap.size + 1 by simp)
      have TW := Lib.hid (TB.out.but BB.out (fun e => hgt e))
      have HNT := Lib.hid (show ∀ k, T k → ¬ Is g k from fun k hk e => BA.out.ng (by unfold Is at e; exact e ▸ hk))
      have HSET := Lib.hid BA.out.set
      go_upto_region 4 with (fail)
      clear e0 e1 e2 e3 e4 e5 e6 e7 e8 e9 e10 e11 hcell hrd hcl ra rb rv rv' hb1 hsu hmem hst htk hbel BA BB HRD
      generalize (wr.alloc (.cells #[.int .i64 k, .string s, .int .i64 k1, .int .i64 n1, .string s1, .slice A1 m1 p1, .int .i64 k2, .int .i64 n2, .string s2, .slice A2 m2 p2, .slice A3 body.length p3, .slice A4 els.length p4] 39)) = W at *
      obtain ⟨d, hd⟩ : ∃ d, d = wr.heap.size := ⟨_, rfl⟩
      rw [← hd] at BX hwz0 HSZ
      rw [← hd]
      have c0 := BX.out.cell 0 _ rfl; have c1 := BX.out.cell 1 _ rfl; have c2 := BX.out.cell 2 _ rfl; have c3 := BX.out.cell 3 _ rfl; have c4 := BX.out.cell 4 _ rfl; have c5 := BX.out.cell 5 _ rfl; have c6 := BX.out.cell 6 _ rfl; have c7 := BX.out.cell 7 _ rfl; have c8 := BX.out.cell 8 _ rfl; have c9 := BX.out.cell 9 _ rfl; have c10 := BX.out.cell 10 _ rfl; have c11 := BX.out.cell 11 _ rfl
      have hgd : g < d := by omega
      have hdg : d ≠ g := by omega
      clear hd hb hb0
      obtain ⟨lab, hlab⟩ : ∃ lab, lab = at_ + labelsL (l.take q) := ⟨_, rfl⟩
      rw [show (at_ : Int) + (labelsL (l.take q) : Int) = (lab : Int) by omega]
      have HLAB := Lib.hid hlab
      have K0 := Lib.hid (show BkW b g N S T d _ body els (.slice A3 body.length p3) (.slice A4 els.length p4) L op w W (bkR R PO (l.take q) at_) from ⟨BX.out, R1.out, R2.out, HSW.out, B1.out.rd, B1.out.sub, B1.out.but, TW.out, B1.out.lk⟩)
      rw [labelsL_one] at HLO
      obtain ⟨n, hn⟩ : ∃ n, n = labelsS (.mk k s a c body els) := ⟨_, rfl⟩
      rw [← hn] at HLO hlt2 HLS
      have HNE := Lib.hid hn
      have HQA := Lib.hid (show ∀ i, (PO i || opL (l.take q) at_ i) = true → i < N from fun i hi => by
        rw [Bool.or_eq_true] at hi
        rcases hi with hi | hi
        · exact HP0.out i hi
        · have h1 := opL_rng _ _ _ hi; have h2 := HLT.out q; omega)
      have hlabN : lab + n ≤ N := by omega
      have HQB := Lib.hid (show ∀ i, rngB lab n i = true → i < N from fun i hi => by have := rngB_iff.1 hi; omega)
      clear BX R1 R2 B1 TW hn hlab hwq hlt2
      go_wp2_with fail
      refine HLO.out.mono ?_
      rintro e w1 ⟨rfl, hb1⟩
      have K1 := Lib.hid (K0.out.below hdg HNG.out HNT.out hgt hb1)
      have hz1 := hb1.size
      clear K0 HLO hb1 c0 c1 c2 c3 c4 c5 c6 c7 c8 c9 c10 c11
      go_wp2_with fail
      refine (span_any lab n (by omega) w1).mono ?_
      rintro e w2 ⟨L2, u2, rfl, hs2, hr2, hb2⟩
      have K2 := Lib.hid (K1.out.below hdg HNG.out HNT.out hgt hb2)
      have hz2 := hb2.size
      clear K1 hb2
      go_wp2_with fail
      refine (mix_any b g N (by omega) _ L L2 _ _ HSET.out hs2 HQA.out HQB.out w2 T _ _ _ K2.out.hT (fun h => HNT.out _ h rfl) plus_upto (fun h => h.elim (fun h => h.elim) (fun h => by have := h.1; omega)) K2.out.tab hgt K2.out.lk K2.out.ro hr2).mono ?_
      rintro e w3 ⟨rfl, hlk3, hb3⟩
      have K3 := Lib.hid (K2.out.step hdg HNG.out HNT.out hgt hb3 hlk3)
      have hz3 := hb3.size
      clear K2 hb3 hlk3 hs2 hr2
      have c0 := K3.out.bx.cell 0 _ rfl
      by_cases h4 : k = 4
      · subst h4
        have c10 := K3.out.bx.cell 10 _ rfl
        rw [labels_one (.inl rfl)] at HNE
        have HC := Lib.hid (HIB.out.1 lab _ _ [] w3 S Nowhere _ (.slice none 0 0) K3.out.hS (fun h => HNG.out _ h rfl) K3.out.r1 hx3 (by rw [← HNE.out]; exact hlabN) SetIs.nil (fun _ h => by cases h) (RdL.nil (by unfold maxLen; omega)) (Sub.nowhere _) (fun h => h) K3.out.tab K3.out.lk)
        clear c0
        have c0 := K3.out.bx.cell 0 _ rfl
        go_wp2_with fail
        refine HC.out.mono ?_
        rintro e w4 ⟨L4, u4, T4, rfl, _, _, _, _, hlk4, hb4⟩
        have K4 := Lib.hid (K3.out.step hdg HNG.out HNT.out hgt hb4 hlk4)
        have hz4 := hb4.size
        clear K3 hb4 hlk4 HC c0 c10
        go_wp2_with fail
        refine (span_any lab n (by omega) w4).mono ?_
        rintro e w5 ⟨L5, u5, rfl, hs5, hr5, hb5⟩
        have K5 := Lib.hid (K4.out.below hdg HNG.out HNT.out hgt hb5)
        have hz5 := hb5.size
        clear K4 hb5
        go_wp2_with fail
        refine (bsSOr_any L L5 w5 T _ _ _ K5.out.hT plus_upto K5.out.ro hr5).mono ?_
        rintro e w6 ⟨u6, rfl, hr6, hb6⟩
        have hz6 := hb6.size
        have HFIN := Lib.hid (show BkAt b g N R PO (l.take (q + 1)) at_ w w6 (Plus Nowhere w5.heap.size w6.heap.size) (zipB (fun a b => a ||| b) L L5) u6 from
          ⟨(or_is HSET.out hs5).congr (fun i => by rw [HTK.out, opL_snoc, opS_async, ← HLAB.out, ← HNE.out, Bool.or_assoc]), hr6, plus_upto, fun h => h.elim (fun h => h.elim) (fun h => by have := h.1; omega),
            ((K5.out.lk.below hb6).congr fun i j _ => by rw [HTK.out, ← bkR_step, bkR_none, prS_one (.inl rfl), ← HLAB.out, labels_one (.inl rfl), ← HNE.out]), K5.out.but.trans (But.of_below hb6)⟩)
        clear K5 hr6 hb6 hr5 hs5
        have hb9 : lab + n ≤ 1048577 := by omega
        have hw1 : wrap64 ((lab : Int) + (n : Int)) = (lab : Int) + (n : Int) := w64_2 hb9
        have hw2 : IntKind.i64.wrap ((lab : Int) + (n : Int)) = (lab : Int) + (n : Int) := i64_2 hb9
        go_wp2_with fail
        go_roundw
        all_goals clear hw1 hw2
        case rel => exact ⟨q + 1, _, _, _, rfl, by omega, by go_num, by rw [HLS.out]; congr 1; have := HLAB.out; omega, HFIN⟩
        case measure => simp [intOf]; omega
      by_cases h5 : k = 5
      · subst h5
        have hbn : labelsL body = n := by rw [HNE.out, labels_one (.inr (.inl rfl))]
        have c10 := K3.out.bx.cell 10 _ rfl
        have HC := Lib.hid (HIB.out.1 lab _ _ [] w3 S Nowhere _ (.slice none 0 0) K3.out.hS (fun h => HNG.out _ h rfl) K3.out.r1 hx3 (by omega) SetIs.nil (fun _ h => by cases h) (RdL.nil (by unfold maxLen; omega)) (Sub.nowhere _) (fun h => h) K3.out.tab K3.out.lk)
        have c0 := K3.out.bx.cell 0 _ rfl
        go_wp2_with fail
        refine HC.out.mono ?_
        rintro e w4 ⟨L4, u4, T4, rfl, _, _, _, _, hlk4, hb4⟩
        have K4 := Lib.hid (K3.out.step hdg HNG.out HNT.out hgt hb4 hlk4)
        have hz4 := hb4.size
        have HFIN := Lib.hid (show BkAt b g N R PO (l.take (q + 1)) at_ w w4 T L op from
          ⟨HSET.out.congr (fun i => by rw [HTK.out, opL_snoc, opS_no (by omega), Bool.or_false]), K4.out.ro, K4.out.hT, fun h => HNT.out _ h rfl,
            (K4.out.lk.congr fun i j _ => by rw [HTK.out, ← bkR_step, bkR_none, prS_one (.inr rfl), ← HLAB.out, ← HNE.out]), K4.out.but⟩)
        clear K3 hb4 hlk4 HC c0 c10 K4 hbn
        have hb9 : lab + n ≤ 1048577 := by omega
        have hw1 : wrap64 ((lab : Int) + (n : Int)) = (lab : Int) + (n : Int) := w64_2 hb9
        have hw2 : IntKind.i64.wrap ((lab : Int) + (n : Int)) = (lab : Int) + (n : Int) := i64_2 hb9
        go_wp2_with fail
        go_roundw
        all_goals clear hw1 hw2
        case rel => exact ⟨q + 1, _, _, _, rfl, by omega, by go_num, by rw [HLS.out]; congr 1; have := HLAB.out; omega, HFIN⟩
        case measure => simp [intOf]; omega
      by_cases h6 : k = 6
      · subst h6
        have hbn : labelsL body + labelsL els = n := by rw [HNE.out, labels_if]
        have c10 := K3.out.bx.cell 10 _ rfl
        have HC := Lib.hid (HIB.out.1 lab _ _ [] w3 S Nowhere _ (.slice none 0 0) K3.out.hS (fun h => HNG.out _ h rfl) K3.out.r1 hx3 (by omega) SetIs.nil (fun _ h => by cases h) (RdL.nil (by unfold maxLen; omega)) (Sub.nowhere _) (fun h => h) K3.out.tab K3.out.lk)
        have c0 := K3.out.bx.cell 0 _ rfl
        go_wp2_with fail
        refine HC.out.mono ?_
        rintro e w4 ⟨L4, u4, T4, rfl, hs4, hr4, hT4, hg4, hlk4, hb4⟩
        have hbd : Below w4.heap.size w4 w4.drew := (Below.refl _ _).drew
        have hn4 : ∀ k, T4 k → ¬ Is g k := fun k hk e => hg4 (by unfold Is at e; exact e ▸ hk)
        have K4 := Lib.hid ((K3.out.step hdg HNG.out HNT.out hgt hb4 hlk4).below hdg HNG.out HNT.out hgt hbd)
        have HR4 := Lib.hid (hr4.keep Flat.keeps (Sub.refl _) (same_of_below hbd hT4))
        have HT4 := Lib.hid (show Sub T4 (Upto w4.drew.heap.size) from hT4)
        have HN4 := Lib.hid hn4
        have HS4 := Lib.hid hs4
        have hz4 := hb4.size
        have HLB := Lib.hid ((labs_all _ body (Nat.le_refl _)).1 w4.drew S _ K4.out.hS K4.out.r1 hx3)
        have d10 := K4.out.bx.cell 10 _ rfl
        have d11 := K4.out.bx.cell 11 _ rfl
        have hb8 : lab + labelsL body ≤ 1048577 := by omega
        have hw3 : wrap64 ((lab : Int) + (labelsL body : Int)) = (lab : Int) + (labelsL body : Int) := w64_2 hb8
        have hw4 : IntKind.i64.wrap ((lab : Int) + (labelsL body : Int)) = (lab : Int) + (labelsL body : Int) := i64_2 hb8
        have hvi : (lab : Int) + (labelsL body : Int) = ((lab + labelsL body : Nat) : Int) := by omega
        have HVI := Lib.hid hvi
        clear hvi
        go_upto_region 14 with (fail)
        clear K3 hb4 hlk4 HC c0 c10 hr4 hT4 hg4 hs4 hn4 hbd
        refine wp_region_pre 8 (S := (fun wx => wx.cell? ⟨d, 11, none⟩ = some (.slice A4 els.length p4) ∧ wx.cell? ⟨d, 10, none⟩ = some (.slice A3 body.length p3))) (by kernel_rfl) (by kernel_rfl) ⟨d11, d10⟩ (fun hHeld => ?_)
        simp only [List.take_succ_cons, List.take_zero]
        refine wpAnyH_take_at (i := 0) (v := ?_) (some 58) rfl rfl (by kernel_rfl) (by kernel_rfl) (by kernel_rfl) (fun _ _ _ h => h) (Or.inl ⟨by rfl, ?_⟩) (by assumption) ?_
        rotate_left
        · (intro w hSw; (try dsimp only at hSw); go_simp; (try with_reducible rfl))
        (try simp only [Act.put, List.setIfInBounds_toArray, List.set_cons_zero, List.set_cons_succ])
        refine wpAnyH_take_at (i := 1) (v := ?_) (some 59) rfl rfl (by kernel_rfl) (by kernel_rfl) (by kernel_rfl) (fun _ _ _ h => h) (Or.inl ⟨by rfl, ?_⟩) (by assumption) ?_
        rotate_left
        · (intro w hSw; (try dsimp only at hSw); go_simp; (try with_reducible rfl))
        (try simp only [Act.put, List.setIfInBounds_toArray, List.set_cons_zero, List.set_cons_succ])
        refine wpAnyH_take_at (i := 2) (v := ?_) (some 60) rfl rfl (by kernel_rfl) (by kernel_rfl) (by kernel_rfl) (fun _ _ _ h => h) (Or.inl ⟨by rfl, ?_⟩) (by assumption) ?_
        rotate_left
        · (intro w hSw; (try dsimp only at hSw); go_simp; (try with_reducible rfl))
        (try simp only [Act.put, List.setIfInBounds_toArray, List.set_cons_zero, List.set_cons_succ])
        refine wpAnyH_take_at (i := 3) (v := ?_) (some 61) rfl rfl (by kernel_rfl) (by kernel_rfl) (by kernel_rfl) (fun _ _ _ h => h) (Or.inl ⟨by rfl, ?_⟩) (by assumption) ?_
        rotate_left
        · (intro w hSw; (try dsimp only at hSw); go_simp; (try with_reducible rfl))
        (try simp only [Act.put, List.setIfInBounds_toArray, List.set_cons_zero, List.set_cons_succ])
        refine wpAnyH_take_at (i := 4) (v := ?_) (some 62) rfl rfl (by kernel_rfl) (by kernel_rfl) (by kernel_rfl) (fun _ _ _ h => h) (Or.inl ⟨by rfl, ?_⟩) (by assumption) ?_
        rotate_left
        · (intro w hSw; (try dsimp only at hSw); go_simp; (try with_reducible rfl))
        (try simp only [Act.put, List.setIfInBounds_toArray, List.set_cons_zero, List.set_cons_succ])
        refine wpAnyH_take_at (i := 5) (v := ?_) (some 63) rfl rfl (by kernel_rfl) (by kernel_rfl) (by kernel_rfl) (fun _ _ _ h => h) (Or.inl ⟨by rfl, ?_⟩) (by assumption) ?_
        rotate_left
        · (intro w hSw; (try dsimp only at hSw); go_simp; (try with_reducible rfl))
        (try simp only [Act.put, List.setIfInBounds_toArray, List.set_cons_zero, List.set_cons_succ])
        refine wpAnyH_ready (rs := [6]) (by kernel_rfl) (by simp) ?_
        refine AllReadyH.cons rfl (fun K hK => ?_) AllReadyH.nil
        go_simp
        refine HLB.out.mono ?_
        rintro e w5 ⟨rfl, hb5⟩
        have K5 := Lib.hid (K4.out.below hdg HNG.out HNT.out hgt hb5)
        refine hK.out _ _ ?_ (fun hHeld => ?_)
        · exact ⟨K5.out.bx.cell 11 _ rfl, K5.out.bx.cell 10 _ rfl⟩
        clear hK K
        (try simp only [Act.put, List.setIfInBounds_toArray, List.set_cons_zero, List.set_cons_succ])
        refine wpAnyH_take_at (i := 7) (v := ?_) (some 65) rfl rfl (by kernel_rfl) (by kernel_rfl) (by kernel_rfl) (fun _ _ _ h => h) (Or.inl ⟨by rfl, ?_⟩) (by assumption) ?_
        rotate_left
        · (intro w hSw; (try dsimp only at hSw); go_simp; (try with_reducible rfl))
        (try simp only [Act.put, List.setIfInBounds_toArray, List.set_cons_zero, List.set_cons_succ])
        refine wpAnyH_done (by kernel_rfl) ?_ _
        unfold QPre
        simp only [List.drop_succ_cons, List.drop_zero]
        have HR5 := Lib.hid (HR4.out.keep Flat.keeps (Sub.refl _) (same_of_below hb5 HT4.out))
        have HT5 := Lib.hid (HT4.out.trans (Sub.upto hb5.size))
        have hz5 := hb5.size
        have hzd : w4.drew.heap.size = w4.heap.size := rfl
        rw [HVI.out]
        have HD := Lib.hid (HIB.out.2 (lab + labelsL body) _ _ [] w5 S Nowhere _ (.slice none 0 0) K5.out.hS (fun h => HNG.out _ h rfl) K5.out.r2 hx4 (by clear hw3 hw4; omega) SetIs.nil (fun _ h => by cases h) (RdL.nil (by unfold maxLen; clear hw3 hw4; omega)) (Sub.nowhere _) (fun h => h) K5.out.tab K5.out.lk)
        clear hw3 hw4 K4 HR4 HT4 hb5 HLB d10 d11
        go_wp2_with fail
        refine HD.out.mono ?_
        rintro e w6 ⟨L6, u6, T6, rfl, hs6, hr6, hT6, hg6, hlk6, hb6⟩
        have K6 := Lib.hid (K5.out.step hdg HNG.out HNT.out hgt hb6 hlk6)
        have HR6 := Lib.hid (HR5.out.keep Flat.keeps (Sub.refl _) (hb6.same HT5.out HN4.out))
        have HT6 := Lib.hid (HT5.out.trans (Sub.upto hb6.size))
        have hz6 := hb6.size
        clear K5 HR5 HT5 hb6 hlk6 HD
        go_wp2_with fail
        refine (bsSOr_any L L4 w6 T T4 _ _ K6.out.hT HT6.out K6.out.ro HR6.out).mono ?_
        rintro e w7 ⟨u7, rfl, hr7, hb7⟩
        have K7 := Lib.hid (K6.out.below hdg HNG.out HNT.out hgt hb7)
        have HR7 := Lib.hid (hr6.keep Flat.keeps (Sub.refl _) (same_of_below hb7 hT6))
        have HT7 := Lib.hid (hT6.trans (Sub.upto hb7.size))
        have hz7 := hb7.size
        clear K6 HR6 HT6 hb7 hr6 hT6
        go_wp2_with fail
        refine (bsSOr_any _ L6 w7 _ T6 _ _ plus_upto HT7.out hr7 HR7.out).mono ?_
        rintro e w8 ⟨u8, rfl, hr8, hb8'⟩
        have HFIN := Lib.hid (show BkAt b g N R PO (l.take (q + 1)) at_ w w8 (Plus Nowhere w7.heap.size w8.heap.size) (zipB (fun a b => a ||| b) (zipB (fun a b => a ||| b) L L4) L6) u8 from
          ⟨(or_is (or_is HSET.out HS4.out) hs6).congr (fun i => by rw [HTK.out, opL_snoc, opS_if, ← HLAB.out]; simp only [Bool.false_or, Bool.or_assoc]), hr8, plus_upto, fun h => h.elim (fun h => h.elim) (fun h => by have := h.1; omega),
            ((K7.out.lk.below hb8').congr fun i j _ => by rw [HTK.out, ← bkR_step, bkR_none, bkR_none, prS_if, ← HLAB.out, ← HNE.out]; simp only [Bool.or_assoc]), K7.out.but.trans (But.of_below hb8')⟩)
        clear K7 hr8 hb8' hr7 HR7 HT7 hs6 HS4 HVI hbn
        have hb9 : lab + n ≤ 1048577 := by omega
        have hw1 : wrap64 ((lab : Int) + (n : Int)) = (lab : Int) + (n : Int) := w64_2 hb9
        have hw2 : IntKind.i64.wrap ((lab : Int) + (n : Int)) = (lab : Int) + (n : Int) := i64_2 hb9
        go_wp2_with fail
        go_roundw
        all_goals clear hw1 hw2
        case rel => exact ⟨q + 1, _, _, _, rfl, by omega, by go_num, by rw [HLS.out]; congr 1; have := HLAB.out; omega, HFIN⟩
        case measure => simp [intOf]; omega
      by_cases h7 : k = 7
      · subst h7
        have hbn : labelsL body = n := by rw [HNE.out, labels_one (.inr (.inr rfl))]
        have c10 := K3.out.bx.cell 10 _ rfl
        have HC := Lib.hid (HIB.out.1 lab _ _ [] w3 S Nowhere _ (.slice none 0 0) K3.out.hS (fun h => HNG.out _ h rfl) K3.out.r1 hx3 (by omega) SetIs.nil (fun _ h => by cases h) (RdL.nil (by unfold maxLen; omega)) (Sub.nowhere _) (fun h => h) K3.out.tab K3.out.lk)
        have c0 := K3.out.bx.cell 0 _ rfl
        go_wp2_with fail
        refine HC.out.mono ?_
        rintro e w4 ⟨L4, u4, T4, rfl, hs4, hr4, hT4, hg4, hlk4, hb4⟩
        have hn4 : ∀ k, T4 k → ¬ Is g k := fun k hk e => hg4 (by unfold Is at e; exact e ▸ hk)
        have K4 := Lib.hid (K3.out.step hdg HNG.out HNT.out hgt hb4 hlk4)
        have HS4 := Lib.hid (hs4.congr (Q := opL body lab) (fun i => Bool.false_or _))
        have HN4 := Lib.hid hn4
        have hz4 := hb4.size
        have HQ4 := Lib.hid (show ∀ i, opL body lab i = true → i < N from fun i hi => by have h1 := opL_rng _ _ _ hi; omega)
        clear K3 hb4 hlk4 HC c0 c10 hn4 hs4
        go_wp2_with fail
        refine (span_any lab n (by omega) w4).mono ?_
        rintro e w5 ⟨L5, u5, rfl, hs5, hr5, hb5⟩
        have K5 := Lib.hid (K4.out.below hdg HNG.out HNT.out hgt hb5)
        have HR5 := Lib.hid (hr4.keep Flat.keeps (Sub.refl _) (same_of_below hb5 hT4))
        have HT5 := Lib.hid (hT4.trans (Sub.upto hb5.size))
        have hz5 := hb5.size
        clear K4 hb5 hr4 hT4
        go_wp2_with fail
        refine (mix_any b g N (by omega) _ L4 L5 _ _ HS4.out hs5 HQ4.out HQB.out w5 T4 _ _ _ HT5.out hg4 plus_upto (fun h => h.elim (fun h => h.elim) (fun h => by have := h.1; omega)) K5.out.tab hgt K5.out.lk HR5.out hr5).mono ?_
        rintro e w6 ⟨rfl, hlk6, hb6⟩
        have K6 := Lib.hid (K5.out.step hdg HNG.out HNT.out hgt hb6 hlk6)
        have HR6 := Lib.hid (HR5.out.keep Flat.keeps (Sub.refl _) (hb6.same HT5.out HN4.out))
        have HT6 := Lib.hid (HT5.out.trans (Sub.upto hb6.size))
        have hz6 := hb6.size
        clear K5 HR5 HT5 hb6 hlk6 hs5 hr5
        go_wp2_with fail
        refine (bsSOr_any L L4 w6 T T4 _ _ K6.out.hT HT6.out K6.out.ro HR6.out).mono ?_
        rintro e w7 ⟨u7, rfl, hr7, hb7⟩
        have HFIN := Lib.hid (show BkAt b g N R PO (l.take (q + 1)) at_ w w7 (Plus Nowhere w6.heap.size w7.heap.size) (zipB (fun a b => a ||| b) L L4) u7 from
          ⟨(or_is HSET.out HS4.out).congr (fun i => by rw [HTK.out, opL_snoc, opS_for, ← HLAB.out, Bool.or_assoc]), hr7, plus_upto, fun h => h.elim (fun h => h.elim) (fun h => by have := h.1; omega),
            ((K6.out.lk.below hb7).congr fun i j _ => by rw [HTK.out, ← bkR_step, bkR_none, prS_for, ← HLAB.out, ← HNE.out, hbn, Bool.or_assoc]), K6.out.but.trans (But.of_below hb7)⟩)
        clear K6 hr7 hb7 HR6 HT6 HS4 hbn HQ4
        have hb9 : lab + n ≤ 1048577 := by omega
        have hw1 : wrap64 ((lab : Int) + (n : Int)) = (lab : Int) + (n : Int) := w64_2 hb9
        have hw2 : IntKind.i64.wrap ((lab : Int) + (n : Int)) = (lab : Int) + (n : Int) := i64_2 hb9
        go_wp2_with fail
        go_roundw
        all_goals clear hw1 hw2
        case rel => exact ⟨q + 1, _, _, _, rfl, by omega, by go_num, by rw [HLS.out]; congr 1; have := HLAB.out; omega, HFIN⟩
        case measure => simp [intOf]; omega
      have HFIN := Lib.hid (show BkAt b g N R PO (l.take (q + 1)) at_ w w3 T L op from
        ⟨HSET.out.congr (fun i => by rw [HTK.out, opL_snoc, opS_no ⟨h4, h6, h7⟩, Bool.or_false]), K3.out.ro, K3.out.hT, fun h => HNT.out _ h rfl,
          (K3.out.lk.congr fun i j _ => by rw [HTK.out, ← bkR_step, prS_no (by omega), Bool.or_false, ← HLAB.out, ← HNE.out]), K3.out.but⟩)
      clear K3
      have hb9 : lab + n ≤ 1048577 := by omega
      have hw1 : wrap64 ((lab : Int) + (n : Int)) = (lab : Int) + (n : Int) := w64_2 hb9
      have hw2 : IntKind.i64.wrap ((lab : Int) + (n : Int)) = (lab : Int) + (n : Int) := i64_2 hb9
      go_wp2_with fail
      go_roundw
      all_goals clear hw1 hw2
      case rel => exact ⟨q + 1, _, _, _, rfl, by omega, by go_num, by rw [HLS.out]; congr 1; have := HLAB.out; omega, HFIN⟩
      case measure => simp [intOf]; omega
    · have hqe : q = l.length := by omega
      subst hqe
      rw [List.take_length] at BA
      go_wp2
      go_ret
      exact ⟨L, _, T, rfl, BA.out.set, BA.out.rd, BA.out.sub, BA.out.ng, BA.out.lk, BA.out.but⟩
end Go.Proofs.YtnpgpcnkdocknaaDoor
