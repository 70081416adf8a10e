/- The walks of the reference's tlabels and TOpen. -/
import Derived.Test.YtnpgpcnkdocknaaDoorGBsWs
import Derived.Test.YtnpgpcnkdocknaaDoorGLbT
import Derived.Test.YtnpgpcnkdocknaaDoorRegPre
import Derived.Test.YtnpgpcnkdocknaaDoorGRowZ
namespace Go.Proofs.YtnpgpcnkdocknaaDoor
open Go.RowKit
set_option linter.unusedVariables false
theorem infoI8 : (Tryd.prog.info? 3).map (fun i => (i.zero, i.size, i.bytes)) = some (some (.int .i64 0), 1, 8) := by kernel_rfl
set_option maxHeartbeats 600000 in
theorem tlab_any (a m : Nat) (ha : a + m ≤ 65536) (w : World) :
    Calls Tryd.prog 16 #[.int .i64 a, .int .i64 m] w fun e w' => ∃ A c, e = .returned (.slice A m c) ∧ RdI w' (Plus Nowhere w.heap.size w'.heap.size) (rngI a m) (.slice A m c) ∧ Below w.heap.size w w' := by
  obtain ⟨i0, hi, hz0, hz1, hz2⟩ := info_parts infoI8
  go_enter Tryd.func16, Tryd.ntmps16
  go_wp2
  go_loopw [5, 8] (fun s t wr => ∃ q : Nat, q ≤ m ∧ t = .int .i64 q ∧ Hid (OwnI 3 wr w.heap.size Nowhere (rngI a q) s) ∧ Below w.heap.size w wr) (fun _ t _ => m - (intOf t).toNat)
  case atStart => exact ⟨0, by omega, rfl, Lib.hid (OwnL.nil _ _ _), Below.refl _ _⟩
  case round =>
    obtain ⟨q, hq, rfl, O, hb⟩ := hrel
    by_cases hlt : q < m
    · have HS := Lib.hid (rngI_succ a q)
      have hln := rngI_len a q
      have HLN := Lib.hid hln
      have hsz := hb.size
      have HB := Lib.hid hb
      have hcast : (a : Int) + (q : Int) = ((a + q : Nat) : Int) := by omega
      have HCA := Lib.hid hcast
      clear hb hln hcast
      go_wp2_with (at_builtin; refine wpList_append_one rfl _ _ 26 rfl i0 _ Tryd.underlying26 hi hz0 hz1 hz2 rfl (by decide) Flat.keeps O.out (x := (a : Int) + (q : Int)) (cs := [Value.int .i64 ((a : Int) + (q : Int))]) (Tx := Nowhere) ?d0 rfl rfl rfl (Sub.nowhere _) (Sub.nowhere _) not_nowhere ?d1 ?d2 ?d3 ?d4 ?_)
      case d0 => exact ⟨rfl, by unfold inI; omega⟩
      case d1 => simp [Value.oneCell']
      case d2 => rw [HLN.out]; unfold maxLen; omega
      case d3 => rw [HLN.out]; omega
      try (case d4 => exact hsz)
      intro v2 w2 ho2 hg2 _
      have HO2 := Lib.hid (show OwnI 3 w2 w.heap.size Nowhere (rngI a (q + 1)) v2 by rw [HS.out, ← HCA.out]; exact ho2)
      have HB2 := Lib.hid (HB.out.grown hg2 hsz (fun g hg => (O.out.lt g hg).1))
      clear ho2 hg2
      go_wp2_with fail
      go_roundw
      case rel => exact ⟨q + 1, by omega, by go_num, HO2, HB2.out⟩
      case measure => simp [intOf]; omega
    · have e : q = m := by omega
      subst e
      have hR := O.out.toRd (bytes := 8) (S' := Plus Nowhere w.heap.size wr.heap.size) Flat.keeps (by rw [rngI_len]; omega) (Sub.nowhere _) (fun b h1 h2 => .inr ⟨h1, h2⟩)
      obtain ⟨A, c, rfl, _⟩ := hR.form
      rw [rngI_len] at hR ⊢
      have HR := Lib.hid hR
      clear hR O
      go_wp2
      go_ret
      exact ⟨A, c, rfl, HR.out, hb⟩
/-- what a call of TOpen owes -/
def OpC (l : List St) : Prop := ∀ (at_ : Nat) (w : World) (S : Blocks) (v : Value), Sub S (Upto w.heap.size) → RdSts w S l v → St.wts l ≤ 1048576 → at_ + labelsL l ≤ 65535 →
  Calls Tryd.prog 10 #[v, .int .i64 at_] w fun e w' => ∃ A c, e = .returned (.slice A (opsI l at_).length c) ∧ RdI w' (Plus Nowhere w.heap.size w'.heap.size) (opsI l at_) (.slice A (opsI l at_).length c) ∧ Below w.heap.size w w'
/-- behind q statements -/
structure ToA (l : List St) (at_ q : Nat) (w wr : World) (O : List Int) (o : Value) : Prop where
  own : OwnI 3 wr w.heap.size Nowhere O o
  but : Below w.heap.size w wr
  mem : ∀ x, x ∈ O ↔ ∃ n : Nat, x = n ∧ opL (l.take q) at_ n = true
  len : O.length ≤ labelsL (l.take q)
def ToAt (l : List St) (at_ q : Nat) (w wr : World) (o : Value) : Prop := ∃ O, ToA l at_ q w wr O o
theorem opL_mem_snoc (l : List St) (s : St) (at_ : Nat) (x : Int) : (∃ n : Nat, x = n ∧ opL (l ++ [s]) at_ n = true) ↔ (∃ n : Nat, x = n ∧ opL l at_ n = true) ∨ ∃ n : Nat, x = n ∧ opS s (at_ + labelsL l) n = true := by
  simp only [opL_snoc, Bool.or_eq_true]
  constructor
  · rintro ⟨n, e, h | h⟩
    · exact .inl ⟨n, e, h⟩
    · exact .inr ⟨n, e, h⟩
  · rintro (⟨n, e, h⟩ | ⟨n, e, h⟩)
    · exact ⟨n, e, .inl h⟩
    · exact ⟨n, e, .inr h⟩
/-- .. and a row of what the next one adds is laid behind it -/
theorem ToA.app {l : List St} {s : St} {at_ q : Nat} {w wr w' : World} {O M : List Int} {o o' : Value} (h : ToA l at_ q w wr O o) (htk : l.take (q + 1) = l.take q ++ [s]) (ho : OwnI 3 w' w.heap.size Nowhere (O ++ M) o') (hb : Below w.heap.size w w')
    (hm : ∀ x, x ∈ M ↔ ∃ n : Nat, x = n ∧ opS s (at_ + labelsL (l.take q)) n = true) (hl : M.length ≤ labelsS s) : ToAt l at_ (q + 1) w w' o' :=
  ⟨_, { own := ho, but := hb, mem := fun x => by rw [List.mem_append, h.mem, hm, htk, opL_mem_snoc], len := by rw [List.length_append, htk, labelsL_snoc]; have := h.len; omega }⟩
theorem ToA.none {l : List St} {s : St} {at_ q : Nat} {w wr w' : World} {O : List Int} {o : Value} (h : ToA l at_ q w wr O o) (htk : l.take (q + 1) = l.take q ++ [s]) (hb : Below wr.heap.size wr w') (hm : ∀ n, opS s (at_ + labelsL (l.take q)) n = false) : ToAt l at_ (q + 1) w w' o :=
  ⟨O, { own := h.own.keep Flat.keeps hb, but := h.but.trans (hb.mono h.but.size), mem := fun x => (by
    rw [h.mem, htk, opL_mem_snoc]
    refine ⟨.inl, fun h => h.elim id ?_⟩
    rintro ⟨n, _, h⟩
    rw [hm] at h; cases h), len := (by rw [htk, labelsL_snoc]; have := h.len; omega) }⟩
theorem ToA.below {l : List St} {at_ q : Nat} {w wr w' : World} {O : List Int} {o : Value} (h : ToA l at_ q w wr O o) (hb : Below wr.heap.size wr w') : ToA l at_ q w w' O o :=
  ⟨h.own.keep Flat.keeps hb, h.but.trans (hb.mono h.but.size), h.mem, h.len⟩
/-- the row has been sorted -/
def TSorted (w : World) (O : List Int) (u : Value) (wx : World) : Prop := Below w.heap.size w wx ∧ ((O = [] ∧ ∃ Ao co, u = .slice Ao 0 co ∧ co ≤ maxLen) ∨
  (∃ g c, u = .slice (some ⟨g, 0, none⟩) O.length c ∧ w.heap.size ≤ g ∧ O.length ≤ c ∧ c ≤ maxLen ∧ (∀ x ∈ O, inI x) ∧ RowZ wx g (sortZ O)))
set_option maxHeartbeats 4000000 in
set_option maxRecDepth 100000 in
theorem topen_one (l : List St) (h : ∀ k s a c body els, St.mk k s a c body els ∈ l → OpC body ∧ OpC els) : OpC l := by
  intro at_ w S v hS r hwl hat
  obtain ⟨A, cap, rfl, hl, hcm, hby⟩ := r.form
  unfold maxLen at hcm
  obtain ⟨i0, hi, hz0, hz1, hz2⟩ := info_parts infoI8
  have H := Lib.hid h
  have RR := Lib.hid r
  have HS := Lib.hid hS
  have HLT := Lib.hid (labels_take l)
  have A0 := Lib.hid (show ToAt l at_ 0 w w (.slice none 0 0) from ⟨[], { own := OwnL.nil _ _ _, but := Below.refl _ _, mem := fun x => by rw [List.take_zero]; simp [opL], len := Nat.zero_le _ }⟩)
  clear h r hS
  go_enter Tryd.func10, Tryd.ntmps10
  go_wp2_with fail
  go_loopw [1, 5, 11] (fun la o' t wr => ∃ (q : Nat) (o : Value), o = o' ∧ q ≤ l.length ∧ t = .int .i64 q ∧ la = .int .i64 ((at_ : Int) + (labelsL (l.take q) : Int)) ∧ Hid (ToAt l at_ q w wr o)) (fun _ _ t _ => l.length - (intOf t).toNat)
  case atStart => exact ⟨0, _, rfl, by omega, rfl, (by rw [List.take_zero, labelsL]; simp), A0⟩
  case round =>
    obtain ⟨q, o, rfl, hq, rfl, rfl, TA⟩ := hrel
    clear A0
    obtain ⟨O, hTA⟩ := TA.out
    have hbel := hTA.but
    by_cases hlt : q < l.length
    · have hwr := hbel.size
      obtain ⟨b0, off, cs, rfl, hb, hcl, hcell, hrd⟩ := (RR.out.go RdSt.keeps hbel HS.out (Sub.refl _)).at_ hlt
      have hb0 : b0 < wr.heap.size := Nat.lt_of_lt_of_le (HS.out _ hb) hwr
      have hmem := List.getElem_mem hlt
      have htk : l.take (q + 1) = l.take q ++ [l[q]] := by rw [List.take_succ_eq_append_getElem hlt]
      have hwq := wts_take l hlt
      have hlt2 := HLT.out (q + 1)
      obtain ⟨st, hst⟩ : ∃ st, l[q] = st := ⟨_, rfl⟩
      rw [hst] at hrd hmem htk hwq
      have HRD := Lib.hid hrd
      obtain ⟨k, s, a, c, body, els⟩ := st
      obtain ⟨k1, n1, s1, A1, m1, p1, k2, n2, s2, A2, m2, p2, A3, p3, A4, p4, rfl, hk, hs, ra, rb, rv, rv'⟩ := hrd.cells
      have e0 : wr.cell? ⟨b0, off + q * 12, none⟩ = some _ := hcell 0 _ rfl
      have e1 : wr.cell? ⟨b0, off + q * 12 + 1, none⟩ = some _ := hcell 1 _ rfl; have e2 : wr.cell? ⟨b0, off + q * 12 + 2, none⟩ = some _ := hcell 2 _ rfl; have e3 : wr.cell? ⟨b0, off + q * 12 + 3, none⟩ = some _ := hcell 3 _ rfl; have e4 : wr.cell? ⟨b0, off + q * 12 + 4, none⟩ = some _ := hcell 4 _ rfl; have e5 : wr.cell? ⟨b0, off + q * 12 + 5, none⟩ = some _ := hcell 5 _ rfl; have e6 : wr.cell? ⟨b0, off + q * 12 + 6, none⟩ = some _ := hcell 6 _ rfl; have e7 : wr.cell? ⟨b0, off + q * 12 + 7, none⟩ = some _ := hcell 7 _ rfl; have e8 : wr.cell? ⟨b0, off + q * 12 + 8, none⟩ = some _ := hcell 8 _ rfl; have e9 : wr.cell? ⟨b0, off + q * 12 + 9, none⟩ = some _ := hcell 9 _ rfl; have e10 : wr.cell? ⟨b0, off + q * 12 + 10, none⟩ = some _ := hcell 10 _ rfl; have e11 : wr.cell? ⟨b0, off + q * 12 + 11, none⟩ = some _ := hcell 11 _ rfl
      rw [htk, labelsL_snoc] at hlt2
      have HTK := Lib.hid htk
      have HLS := Lib.hid (show labelsL (l.take (q + 1)) = labelsL (l.take q) + labelsS (.mk k s a c body els) by rw [htk, labelsL_snoc])
      rw [St.wt] at hwq
      have HIB := Lib.hid (H.out _ _ _ _ _ _ hmem)
      have hx3 : St.wts body ≤ 1048576 := by omega
      have hx4 : St.wts els ≤ 1048576 := by omega
      have hx5 : St.wts [.mk k s a c body els] ≤ 1048576 := by simp only [St.wts, St.wt]; omega
      have hb1 : Below wr.heap.size wr (wr.alloc (.cells #[.int .i64 k, .string s, .int .i64 k1, .int .i64 n1, .string s1, .slice A1 m1 p1, .int .i64 k2, .int .i64 n2, .string s2, .slice A2 m2 p2, .slice A3 body.length p3, .slice A4 els.length p4] 39)) := (Below.refl _ _).alloc (Nat.le_refl _) _
      have hsu : Sub S (Upto wr.heap.size) := HS.out.trans (Sub.upto hwr)
      have BX := Lib.hid (Blk.made wr [.int .i64 k, .string s, .int .i64 k1, .int .i64 n1, .string s1, .slice A1 m1 p1, .int .i64 k2, .int .i64 n2, .string s2, .slice A2 m2 p2, .slice A3 body.length p3, .slice A4 els.length p4] 39 (base := 0) (Nat.zero_le _))
      have HSW := Lib.hid (show Sub S (Upto ((wr.alloc (.cells #[.int .i64 k, .string s, .int .i64 k1, .int .i64 n1, .string s1, .slice A1 m1 p1, .int .i64 k2, .int .i64 n2, .string s2, .slice A2 m2 p2, .slice A3 body.length p3, .slice A4 els.length p4] 39))).heap.size) from hsu.trans (Sub.upto hb1.size))
      have R1 := Lib.hid (rv.go RdSt.keeps hb1 hsu (Sub.refl _))
      have R2 := Lib.hid (rv'.go RdSt.keeps hb1 hsu (Sub.refl _))
      have HLO := Lib.hid (llabelsOf_one (w := (wr.alloc (.cells #[.int .i64 k, .string s, .int .i64 k1, .int .i64 n1, .string s1, .slice A1 m1 p1, .int .i64 k2, .int .i64 n2, .string s2, .slice A2 m2 p2, .slice A3 body.length p3, .slice A4 els.length p4] 39))) HRD.out (same_of_below hb1 hsu) HSW.out hcl hx5 rfl)
      have KT := Lib.hid (hTA.below hb1)
      have hwz0 : wr.heap.size < ((wr.alloc (.cells #[.int .i64 k, .string s, .int .i64 k1, .int .i64 n1, .string s1, .slice A1 m1 p1, .int .i64 k2, .int .i64 n2, .string s2, .slice A2 m2 p2, .slice A3 body.length p3, .slice A4 els.length p4] 39))).heap.size := by simp
      have HOD := Lib.hid (show ∀ j, o.ownBlock = some j → j ≠ wr.heap.size from fun j hj => by have := (hTA.own.lt j hj).2; omega)
      have HLL := Lib.hid (show O.length ≤ 65535 from by have := hTA.len; have := HLT.out q; omega)
      go_upto_region 5 with (fail)
      clear e0 e1 e2 e3 e4 e5 e6 e7 e8 e9 e10 e11 hcell hrd hcl ra rb rv rv' hb1 hsu hmem hst htk hbel HRD hTA TA
      generalize (wr.alloc (.cells #[.int .i64 k, .string s, .int .i64 k1, .int .i64 n1, .string s1, .slice A1 m1 p1, .int .i64 k2, .int .i64 n2, .string s2, .slice A2 m2 p2, .slice A3 body.length p3, .slice A4 els.length p4] 39)) = W at *
      obtain ⟨d, hd⟩ : ∃ d, d = wr.heap.size := ⟨_, rfl⟩
      rw [← hd] at BX hwz0 HOD
      rw [← hd]
      have c0 := BX.out.cell 0 _ rfl; have c1 := BX.out.cell 1 _ rfl; have c2 := BX.out.cell 2 _ rfl; have c3 := BX.out.cell 3 _ rfl; have c4 := BX.out.cell 4 _ rfl; have c5 := BX.out.cell 5 _ rfl; have c6 := BX.out.cell 6 _ rfl; have c7 := BX.out.cell 7 _ rfl; have c8 := BX.out.cell 8 _ rfl; have c9 := BX.out.cell 9 _ rfl; have c10 := BX.out.cell 10 _ rfl; have c11 := BX.out.cell 11 _ rfl
      clear hd hb hb0
      obtain ⟨lab, hlab⟩ : ∃ lab, lab = at_ + labelsL (l.take q) := ⟨_, rfl⟩
      rw [show (at_ : Int) + (labelsL (l.take q) : Int) = (lab : Int) by omega]
      have HLAB := Lib.hid hlab
      rw [labelsL_one] at HLO
      obtain ⟨n, hn⟩ : ∃ n, n = labelsS (.mk k s a c body els) := ⟨_, rfl⟩
      rw [← hn] at HLO hlt2 HLS
      have HNE := Lib.hid hn
      have hlabN : lab + n ≤ 65535 := by omega
      clear hn hlab hwq hlt2
      go_wp2_with fail
      refine HLO.out.mono ?_
      rintro e w1 ⟨rfl, hb1⟩
      have BX1 := Lib.hid (BX.out.below hb1)
      have KT1 := Lib.hid (KT.out.below hb1)
      have HS1 := Lib.hid (HSW.out.trans (Sub.upto hb1.size))
      have R11 := Lib.hid (R1.out.go RdSt.keeps hb1 HSW.out (Sub.refl _))
      have R21 := Lib.hid (R2.out.go RdSt.keeps hb1 HSW.out (Sub.refl _))
      have hz1' := hb1.size
      clear HLO hb1 BX KT HSW R1 R2 c0 c1 c2 c3 c4 c5 c6 c7 c8 c9 c10 c11
      have c0 := BX1.out.cell 0 _ rfl
      by_cases h4 : k = 4
      · subst h4
        have hbn : labelsL body = n := by rw [HNE.out, labels_one (.inl rfl)]
        go_wp2_with fail
        refine (tlab_any lab n (by omega) w1).mono ?_
        rintro e w2 ⟨A5, c5, rfl, hr2, hb2⟩
        have KT2 := Lib.hid (KT1.out.below hb2)
        have HML := Lib.hid (rngI_len lab n)
        clear KT1 c0 hb2
        have HR2 := Lib.hid hr2
        clear hr2
        go_wp2_with (at_builtin; refine wpList_append_list rfl _ _ 26 rfl i0 _ Tryd.underlying26 hi hz0 hz1 hz2 rfl (by decide) Flat.keeps KT2.out.own (HR2.out.bare Nowhere) rfl rfl (Sub.nowhere _) (Sub.nowhere _) not_nowhere oneI ?c3 ?c4 ?c5 ?_)
        case c3 => have h9 := HLL.out; have h8 := HML.out; rw [h8]; unfold maxLen; omega
        case c4 => have h9 := HLL.out; have h8 := HML.out; rw [h8]; omega
        try (case c5 => exact KT2.out.but.size)
        intro v9 w9 ho9 hg9 _
        have HB9 := Lib.hid (KT2.out.but.grown hg9 KT2.out.but.size (fun j hj => (KT2.out.own.lt j hj).1))
        have HFIN := Lib.hid (KT2.out.app HTK.out ho9 HB9.out (fun x => by rw [← HLAB.out, rngI_mem]; simp only [opS_async, hbn]) (by rw [HML.out, HNE.out]; exact Nat.le_refl _))
        clear ho9 hg9 KT2 HB9 HR2
        have hb9 : lab + n ≤ 1048577 := by omega
        have hw1 : wrap64 ((lab : Int) + (n : Int)) = (lab : Int) + (n : Int) := w64_2 hb9
        have hw2 : IntKind.i64.wrap ((lab : Int) + (n : Int)) = (lab : Int) + (n : Int) := i64_2 hb9
        go_wp2_with fail
        go_roundw
        all_goals clear hw1 hw2
        case rel => exact ⟨q + 1, _, rfl, by omega, by go_num, by rw [HLS.out]; congr 1; have := HLAB.out; omega, HFIN⟩
        case measure => simp [intOf]; omega
      by_cases h6 : k = 6
      · subst h6
        have hbn : labelsL body + labelsL els = n := by rw [HNE.out, labels_if]
        have c10 := BX1.out.cell 10 _ rfl
        have HC := Lib.hid (HIB.out.1 lab w1 S _ HS1.out R11.out hx3 (by omega))
        go_wp2_with fail
        refine HC.out.mono ?_
        rintro e w2 ⟨A5, c5, rfl, hr2, hb2⟩
        have KT2 := Lib.hid (KT1.out.below hb2)
        have HML := Lib.hid (opsI_len body lab)
        clear HC c0 c10 KT1
        have HR2 := Lib.hid hr2
        have BX2 := Lib.hid (BX1.out.below hb2)
        have HS2 := Lib.hid (HS1.out.trans (Sub.upto hb2.size))
        have R12 := Lib.hid (R11.out.go RdSt.keeps hb2 HS1.out (Sub.refl _))
        have R22 := Lib.hid (R21.out.go RdSt.keeps hb2 HS1.out (Sub.refl _))
        clear hb2 hr2 BX1 HS1 R11 R21
        go_wp2_with (at_builtin; refine wpList_append_list rfl _ _ 26 rfl i0 _ Tryd.underlying26 hi hz0 hz1 hz2 rfl (by decide) Flat.keeps KT2.out.own (HR2.out.bare Nowhere) rfl rfl (Sub.nowhere _) (Sub.nowhere _) not_nowhere oneI ?c3 ?c4 ?c5 ?_)
        case c3 => have h9 := HLL.out; have h8 := HML.out; unfold maxLen; omega
        case c4 => have h9 := HLL.out; have h8 := HML.out; omega
        try (case c5 => exact KT2.out.but.size)
        intro v9 w9 ho9 hg9 _
        have HB9 := Lib.hid (KT2.out.but.grown hg9 KT2.out.but.size (fun j hj => (KT2.out.own.lt j hj).1))
        have HO9 := Lib.hid ho9
        have hno : ∀ k, S k → ¬ (o.ownBlock = some k) := fun k hk e => by have h1 := (KT2.out.own.lt k e).1; have h2 := HS.out k hk; unfold Upto at h2; omega
        have hbt := But.of_grown hg9
        have hbd : Below w9.heap.size w9 w9.drew := (Below.refl _ _).drew
        have BX9 := Lib.hid ((BX2.out.but hbt (fun e => HOD.out _ e rfl)).below hbd)
        have HS9 := Lib.hid (show Sub S (Upto w9.drew.heap.size) from HS2.out.trans (Sub.upto hbt.size))
        have R19 := Lib.hid ((R12.out.keep RdSt.keeps (Sub.refl _) (hbt.same HS2.out hno)).go RdSt.keeps hbd HS9.out (Sub.refl _))
        have R29 := Lib.hid ((R22.out.keep RdSt.keeps (Sub.refl _) (hbt.same HS2.out hno)).go RdSt.keeps hbd HS9.out (Sub.refl _))
        have OD := Lib.hid (ho9.keep Flat.keeps hbd)
        have BD := Lib.hid (HB9.out.trans (hbd.mono HB9.out.size))
        have HLB := Lib.hid ((labs_all _ body (Nat.le_refl _)).2 w9.drew S _ HS9.out R19.out hx3)
        have d10 := BX9.out.cell 10 _ rfl
        have d11 := BX9.out.cell 11 _ rfl
        have HM1 := Lib.hid KT2.out
        have HML2 := Lib.hid (opsI_len els (lab + labelsL body))
        have hb8 : lab + labelsL body ≤ 1048577 := by omega
        have HVI := Lib.hid (show (lab : Int) + (labelsL body : Int) = ((lab + labelsL body : Nat) : Int) by omega)
        have HB8 := Lib.hid (show lab + labelsL body + labelsL els ≤ 65535 by omega)
        have hw3 : wrap64 ((lab : Int) + (labelsL body : Int)) = (lab : Int) + (labelsL body : Int) := w64_2 hb8
        have hw4 : IntKind.i64.wrap ((lab : Int) + (labelsL body : Int)) = (lab : Int) + (labelsL body : Int) := i64_2 hb8
        clear ho9 hg9 hbt hno BX2 HS2 R12 R22 HR2 HB9 HO9
        go_upto_region 11 with (fail)
        clear hbd
        refine wp_region_pre 9 (S := (fun wx => wx.cell? ⟨d, 11, none⟩ = some (.slice A4 els.length p4) ∧ wx.cell? ⟨d, 10, none⟩ = some (.slice A3 body.length p3))) (by kernel_rfl) (by kernel_rfl) ⟨d11, d10⟩ (fun hHeld => ?_)
        simp only [List.take_succ_cons, List.take_zero]
        refine wpAnyH_take_at (i := 0) (v := ?_) (some 35) rfl rfl (by kernel_rfl) (by kernel_rfl) (by kernel_rfl) (fun _ _ _ h => h) (Or.inl ⟨by rfl, ?_⟩) (by assumption) ?_
        rotate_left
        · (intro w hSw; (try dsimp only at hSw); go_simp; (try with_reducible rfl))
        (try simp only [Act.put, List.setIfInBounds_toArray, List.set_cons_zero, List.set_cons_succ])
        refine wpAnyH_take_at (i := 1) (v := ?_) (some 36) rfl rfl (by kernel_rfl) (by kernel_rfl) (by kernel_rfl) (fun _ _ _ h => h) (Or.inl ⟨by rfl, ?_⟩) (by assumption) ?_
        rotate_left
        · (intro w hSw; (try dsimp only at hSw); go_simp; (try with_reducible rfl))
        (try simp only [Act.put, List.setIfInBounds_toArray, List.set_cons_zero, List.set_cons_succ])
        refine wpAnyH_take_at (i := 2) (v := ?_) (some 37) rfl rfl (by kernel_rfl) (by kernel_rfl) (by kernel_rfl) (fun _ _ _ h => h) (Or.inl ⟨by rfl, ?_⟩) (by assumption) ?_
        rotate_left
        · (intro w hSw; (try dsimp only at hSw); go_simp; (try with_reducible rfl))
        (try simp only [Act.put, List.setIfInBounds_toArray, List.set_cons_zero, List.set_cons_succ])
        refine wpAnyH_take_at (i := 3) (v := ?_) (some 38) rfl rfl (by kernel_rfl) (by kernel_rfl) (by kernel_rfl) (fun _ _ _ h => h) (Or.inl ⟨by rfl, ?_⟩) (by assumption) ?_
        rotate_left
        · (intro w hSw; (try dsimp only at hSw); go_simp; (try with_reducible rfl))
        (try simp only [Act.put, List.setIfInBounds_toArray, List.set_cons_zero, List.set_cons_succ])
        refine wpAnyH_take_at (i := 4) (v := ?_) (some 39) rfl rfl (by kernel_rfl) (by kernel_rfl) (by kernel_rfl) (fun _ _ _ h => h) (Or.inl ⟨by rfl, ?_⟩) (by assumption) ?_
        rotate_left
        · (intro w hSw; (try dsimp only at hSw); go_simp; (try with_reducible rfl))
        (try simp only [Act.put, List.setIfInBounds_toArray, List.set_cons_zero, List.set_cons_succ])
        refine wpAnyH_take_at (i := 5) (v := ?_) (some 40) rfl rfl (by kernel_rfl) (by kernel_rfl) (by kernel_rfl) (fun _ _ _ h => h) (Or.inl ⟨by rfl, ?_⟩) (by assumption) ?_
        rotate_left
        · (intro w hSw; (try dsimp only at hSw); go_simp; (try with_reducible rfl))
        (try simp only [Act.put, List.setIfInBounds_toArray, List.set_cons_zero, List.set_cons_succ])
        refine wpAnyH_ready (rs := [6]) (by kernel_rfl) (by simp) ?_
        refine AllReadyH.cons rfl (fun K hK => ?_) AllReadyH.nil
        go_simp
        refine HLB.out.mono ?_
        rintro e w5 ⟨rfl, hb5⟩
        have BX5 := Lib.hid (BX9.out.below hb5)
        refine hK.out _ _ ?_ (fun hHeld => ?_)
        · exact ⟨BX5.out.cell 11 _ rfl, BX5.out.cell 10 _ rfl⟩
        clear hK K
        (try simp only [Act.put, List.setIfInBounds_toArray, List.set_cons_zero, List.set_cons_succ])
        refine wpAnyH_take_at (i := 7) (v := ?_) (some 42) rfl rfl (by kernel_rfl) (by kernel_rfl) (by kernel_rfl) (fun _ _ _ h => h) (Or.inl ⟨by rfl, ?_⟩) (by assumption) ?_
        rotate_left
        · (intro w hSw; (try dsimp only at hSw); go_simp; (try with_reducible rfl))
        (try simp only [Act.put, List.setIfInBounds_toArray, List.set_cons_zero, List.set_cons_succ])
        have HC2 := Lib.hid (HIB.out.2 (lab + labelsL body) w5 S _ (HS9.out.trans (Sub.upto hb5.size)) (R29.out.go RdSt.keeps hb5 HS9.out (Sub.refl _)) hx4 HB8.out)
        refine wpAnyH_ready (rs := [8]) (by kernel_rfl) (by simp) ?_
        refine AllReadyH.cons rfl (fun K hK => ?_) AllReadyH.nil
        go_simp
        rw [HVI.out]
        refine HC2.out.mono ?_
        rintro e w6 ⟨A6, c6, rfl, hr6, hb6⟩
        have BX6 := Lib.hid (BX5.out.below hb6)
        refine hK.out _ _ ?_ (fun hHeld => ?_)
        · exact ⟨BX6.out.cell 11 _ rfl, BX6.out.cell 10 _ rfl⟩
        clear hK K
        (try simp only [Act.put, List.setIfInBounds_toArray, List.set_cons_zero, List.set_cons_succ])
        clear hw3 hw4
        refine wpAnyH_done (by kernel_rfl) ?_ _
        unfold QPre
        simp only [List.drop_succ_cons, List.drop_zero]
        have O6 := Lib.hid ((OD.out.keep Flat.keeps hb5).keep Flat.keeps hb6)
        have B6 := Lib.hid ((BD.out.trans (hb5.mono BD.out.size)).trans (hb6.mono (Nat.le_trans BD.out.size hb5.size)))
        have HR6 := Lib.hid hr6
        clear hr6 hb5 hb6 HC2 HLB d10 d11 BX5 BX6 BX9 OD BD R19 R29
        go_wp2_with (at_builtin; refine wpList_append_list rfl _ _ 26 rfl i0 _ Tryd.underlying26 hi hz0 hz1 hz2 rfl (by decide) Flat.keeps O6.out (HR6.out.bare Nowhere) rfl rfl (Sub.nowhere _) (Sub.nowhere _) not_nowhere oneI ?c3 ?c4 ?c5 ?_)
        case c3 => have h9 := HLL.out; have h8 := HML.out; have h7 := HML2.out; have h6 := HB8.out; rw [List.length_append]; unfold maxLen; omega
        case c4 => have h9 := HLL.out; have h8 := HML.out; have h7 := HML2.out; have h6 := HB8.out; rw [List.length_append]; omega
        try (case c5 => exact B6.out.size)
        intro v9 w9 ho9 hg9 _
        have HB9 := Lib.hid (B6.out.grown hg9 B6.out.size (fun j hj => (O6.out.lt j hj).1))
        have HFIN := Lib.hid (HM1.out.app HTK.out ho9 HB9.out (fun x => by
          rw [List.mem_append, opsI_mem, opsI_mem, ← HLAB.out]
          simp only [opS_if, Bool.or_eq_true]
          constructor
          · rintro (⟨m, e, h⟩ | ⟨m, e, h⟩)
            · exact ⟨m, e, .inl h⟩
            · exact ⟨m, e, .inr h⟩
          · rintro ⟨m, e, h | h⟩
            · exact .inl ⟨m, e, h⟩
            · exact .inr ⟨m, e, h⟩) (by have h8 := HML.out; have h7 := HML2.out; rw [HNE.out] at hbn; rw [List.length_append]; omega))
        clear ho9 hg9 HM1 HB9 HR6 O6 B6 KT2
        have hb9 : lab + n ≤ 1048577 := by omega
        have hw1 : wrap64 ((lab : Int) + (n : Int)) = (lab : Int) + (n : Int) := w64_2 hb9
        have hw2 : IntKind.i64.wrap ((lab : Int) + (n : Int)) = (lab : Int) + (n : Int) := i64_2 hb9
        go_wp2_with fail
        go_roundw
        all_goals clear hw1 hw2
        case rel => exact ⟨q + 1, _, rfl, by omega, by go_num, by rw [HLS.out]; congr 1; have := HLAB.out; omega, HFIN⟩
        case measure => simp [intOf]; omega
      by_cases h7 : k = 7
      · subst h7
        have hbn : labelsL body = n := by rw [HNE.out, labels_one (.inr (.inr rfl))]
        have c10 := BX1.out.cell 10 _ rfl
        have HC := Lib.hid (HIB.out.1 lab w1 S _ HS1.out R11.out hx3 (by omega))
        go_wp2_with fail
        refine HC.out.mono ?_
        rintro e w2 ⟨A5, c5, rfl, hr2, hb2⟩
        have KT2 := Lib.hid (KT1.out.below hb2)
        have HML := Lib.hid (opsI_len body lab)
        clear HC c0 c10 KT1
        have HR2 := Lib.hid hr2
        clear hb2 hr2
        go_wp2_with (at_builtin; refine wpList_append_list rfl _ _ 26 rfl i0 _ Tryd.underlying26 hi hz0 hz1 hz2 rfl (by decide) Flat.keeps KT2.out.own (HR2.out.bare Nowhere) rfl rfl (Sub.nowhere _) (Sub.nowhere _) not_nowhere oneI ?c3 ?c4 ?c5 ?_)
        case c3 => have h9 := HLL.out; have h8 := HML.out; unfold maxLen; omega
        case c4 => have h9 := HLL.out; have h8 := HML.out; omega
        try (case c5 => exact KT2.out.but.size)
        intro v9 w9 ho9 hg9 _
        have HB9 := Lib.hid (KT2.out.but.grown hg9 KT2.out.but.size (fun j hj => (KT2.out.own.lt j hj).1))
        have HFIN := Lib.hid (KT2.out.app HTK.out ho9 HB9.out (fun x => by rw [← HLAB.out, opsI_mem]; simp only [opS_for]) (by have := HML.out; rw [HNE.out] at hbn; omega))
        clear ho9 hg9 KT2 HB9 HR2
        have hb9 : lab + n ≤ 1048577 := by omega
        have hw1 : wrap64 ((lab : Int) + (n : Int)) = (lab : Int) + (n : Int) := w64_2 hb9
        have hw2 : IntKind.i64.wrap ((lab : Int) + (n : Int)) = (lab : Int) + (n : Int) := i64_2 hb9
        go_wp2_with fail
        go_roundw
        all_goals clear hw1 hw2
        case rel => exact ⟨q + 1, _, rfl, by omega, by go_num, by rw [HLS.out]; congr 1; have := HLAB.out; omega, HFIN⟩
        case measure => simp [intOf]; omega
      have HFIN := Lib.hid (KT1.out.none HTK.out (Below.refl _ _) (fun m => opS_no ⟨h4, h6, h7⟩ _ m))
      clear KT1
      have hb9 : lab + n ≤ 1048577 := by omega
      have hw1 : wrap64 ((lab : Int) + (n : Int)) = (lab : Int) + (n : Int) := w64_2 hb9
      have hw2 : IntKind.i64.wrap ((lab : Int) + (n : Int)) = (lab : Int) + (n : Int) := i64_2 hb9
      go_wp2_with fail
      go_roundw
      all_goals clear hw1 hw2
      case rel => exact ⟨q + 1, _, rfl, by omega, by go_num, by rw [HLS.out]; congr 1; have := HLAB.out; omega, HFIN⟩
      case measure => simp [intOf]; omega
    · have hqe : q = l.length := by omega
      subst hqe
      have hmemI : ∀ x ∈ O, inI x := fun x hx => by
        obtain ⟨n, rfl, hn⟩ := (hTA.mem x).1 hx
        rw [List.take_length] at hn
        have := opL_rng _ _ _ hn
        unfold inI; omega
      have HTL := Lib.hid (show ∀ x, x ∈ O ↔ ∃ n : Nat, x = n ∧ n < at_ + labelsL l ∧ opL l at_ n = true from fun x => by
        rw [hTA.mem, List.take_length]
        exact ⟨fun ⟨n, h1, h2⟩ => ⟨n, h1, (opL_rng _ _ _ h2).2, h2⟩, fun ⟨n, h1, _, h2⟩ => ⟨n, h1, h2⟩⟩)
      have HLN := Lib.hid (show O.length ≤ 65535 from by have := hTA.len; rw [List.take_length] at this; omega)
      have HOPS := Lib.hid (show Lib.compact (sortZ O) = opsI l at_ from sorted_numI HTL.out)
      have HMI := Lib.hid hmemI
      have HB := Lib.hid hbel
      have HOWN := Lib.hid hTA.own
      clear hmemI hTA TA hbel
      rcases Nat.eq_zero_or_pos O.length with h0 | h0
      · have hnil : O = [] := List.eq_nil_of_length_eq_zero h0
        subst hnil
        obtain ⟨Ao, co, he, _, hcm2, _⟩ := (HOWN.out.toRd (bytes := 8) (S' := fun _ => True) Flat.keeps (by simp) (Sub.nowhere _) (fun _ _ _ => trivial)).form
        simp only [List.length_nil] at he
        subst he
        have HE := Lib.hid (show opsI l at_ = [] by rw [← HOPS.out, compact_sort]; simp [firsts, sortZ])
        clear HOWN h0
        go_wp2_with fail
        refine (sort_none Ao co _).mono ?_
        rintro e w' ⟨⟨x, rfl⟩, rfl⟩
        go_wp2_with fail
        refine (compact_none Ao co _).mono ?_
        rintro e w' ⟨rfl, rfl⟩
        go_wp2_with fail
        go_ret
        rw [HE.out]
        exact ⟨Ao, co, rfl, RdL.nil hcm2, HB.out⟩
      · obtain ⟨g, c, rfl, hge, hlc, hcm2, hrow, hok⟩ := rowZ_of HOWN.out h0
        have HROW := Lib.hid hrow
        have HLC := Lib.hid hlc
        have HCM := Lib.hid hcm2
        have hgw := hrow.lt
        clear HOWN hrow hok hlc hcm2
        go_wp2_with fail
        refine (sort_any O g c _ HROW.out (by have := HLN.out; omega)).mono ?_
        rintro e w2 ⟨⟨x, rfl⟩, hr2, hb2⟩
        have hcon := compact_any (sortZ O) g c w2 hr2 (by rw [sortZ_len]; exact HLC.out) HCM.out (fun x hx => HMI.out x ((sortZ_mem _ _).1 hx)) (by rw [sortZ_len]; have := HLN.out; omega) (fun x hx => compact_mem hx)
        rw [sortZ_len, HOPS.out] at hcon
        have HCON := Lib.hid hcon
        have hz2' := hb2.size
        have HB3 := Lib.hid (HB.out.trans (hb2.below (B := w.heap.size) HB.out.size (fun k e => by unfold Is at e; omega)))
        clear hr2 hb2 HROW hcon
        go_wp2_with fail
        refine HCON.out.mono ?_
        rintro e w3 ⟨u, rfl, hu, hb3⟩
        have hz3' := hb3.size
        have HB4 := Lib.hid (HB3.out.trans (hb3.below (B := w.heap.size) HB3.out.size (fun k e => by unfold Is at e; omega)))
        obtain ⟨Au, cu, rfl, _⟩ := hu.form
        have HU := Lib.hid (hu.sub (S' := Plus Nowhere w.heap.size w3.heap.size) Flat.keeps (fun b hb => by unfold Is at hb; subst hb; exact .inr ⟨hge, by omega⟩))
        clear hu hb3 HCON
        go_wp2_with fail
        go_ret
        exact ⟨Au, cu, rfl, HU.out, HB4.out⟩
theorem topen_all (m : Nat) : ∀ l : List St, SizeOf.sizeOf l ≤ m → OpC l := by
  induction m with
  | zero => intro l h; cases l <;> simp at h
  | succ m ih =>
    intro l h
    have hsz : ∀ k s a b body els, St.mk k s a b body els ∈ l → SizeOf.sizeOf body ≤ m ∧ SizeOf.sizeOf els ≤ m := fun k s a b body els hm => by
      have := List.sizeOf_lt_of_mem hm
      simp only [St.mk.sizeOf_spec] at this
      omega
    exact topen_one l (fun k s a b body els hm => ⟨ih _ (hsz _ _ _ _ _ _ hm).1, ih _ (hsz _ _ _ _ _ _ hm).2⟩)
theorem topen_any (l : List St) : OpC l := topen_all _ l (Nat.le_refl _)
end Go.Proofs.YtnpgpcnkdocknaaDoor
