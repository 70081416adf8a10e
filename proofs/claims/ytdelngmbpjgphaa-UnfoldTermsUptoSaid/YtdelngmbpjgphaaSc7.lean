/- The walk of scope's stmts. -/
import Derived.Test.YtdelngmbpjgphaaGSc6
namespace Go.Proofs.Ytdelngmbpjgphaa
open Go.RowKit
set_option linter.unusedVariables false
set_option maxHeartbeats 8000000 in
set_option maxRecDepth 100000 in
theorem sts_one (l : List St) (h : ∀ k s a b body els, St.mk k s a b body els ∈ l → STs body ∧ STs els) : STs l := by
  intro base w S z B F vb vf v hS hbs r hw hwl hB hF
  obtain ⟨i0, hi, hz0, hz1', hz2⟩ := info_parts infoStr
  obtain ⟨A, cap, rfl, hl, hcm, hby⟩ := r.form
  unfold maxLen at hcm
  have H := Lib.hid h
  have R := Lib.hid r
  have HS := Lib.hid hS
  have HW0 := Lib.hid (fun k hk => hw.lt k hk : ∀ k, WT z vb vf k → k < w.heap.size)
  have HG0 := Lib.hid (fun k hk => hw.ge k hk : ∀ k, WT z vb vf k → base ≤ k)
  have HW := Lib.hid hw
  clear h r hw hS
  go_enter Try.func55, Try.ntmps55
  go_wp2_with fail
  go_loopw [8] (fun t wr => ∃ q : Nat, q ≤ l.length ∧ t = .int .i64 q ∧ ∃ vb' vf', Hid (Wk base wr z (B ++ bindsL (l.take q)) (merge F (lfree (l.take q) B)) vb' vf') ∧ Hid (But (WT z vb vf) w wr) ∧ Hid (New w vb vb') ∧ Hid (New w vf vf')) (fun t _ => l.length - (intOf t).toNat)
  case atStart => exact ⟨0, by omega, rfl, vb, vf, Lib.hid (by rw [List.take_zero, lfree]; simpa [bindsL, merge_nil] using HW.out), Lib.hid (But.refl _ _), Lib.hid (New.refl _ _), Lib.hid (New.refl _ _)⟩
  case round =>
    clear HW
    obtain ⟨q, hq, rfl, vb', vf', HK, HB, HN1, HN2⟩ := hrel
    by_cases hlt : q < l.length
    · have hsame : Same S w wr := HB.out.same (HS.out.trans (Sub.upto hbs)) (fun k hk ht => by have := HG0.out k ht; have := HS.out k hk; unfold Upto at this; omega)
      obtain ⟨b0, off, cs, rfl, hb, hcl, hcell, hrd⟩ := (R.out.keep RdSt.keeps (Sub.refl _) hsame).at_ hlt
      have hb : b0 < base := HS.out _ hb
      have hbr : base ≤ wr.heap.size := Nat.le_trans hbs HB.out.size
      have hb0 : b0 < wr.heap.size := by omega
      have hmem := List.getElem_mem hlt
      have htk : l.take (q + 1) = l.take q ++ [l[q]] := by rw [List.take_succ_eq_append_getElem hlt]
      have hwq := wts_take l hlt
      obtain ⟨st, hst⟩ : ∃ st, l[q] = st := ⟨_, rfl⟩
      rw [hst] at hrd hmem htk hwq
      obtain ⟨k, s, a, b, body, els⟩ := st
      obtain ⟨k1, n1, s1, A1, m1, p1, k2, n2, s2, A2, m2, p2, A3, p3, A4, p4, rfl, hk, hs, ra, rb, rv, rv'⟩ := hrd.cells
      have e0 : wr.cell? ⟨b0, off + q * 12, none⟩ = some _ := hcell 0 _ rfl
      have e1 : wr.cell? ⟨b0, off + q * 12 + 1, none⟩ = some _ := hcell 1 _ rfl; have e2 : wr.cell? ⟨b0, off + q * 12 + 2, none⟩ = some _ := hcell 2 _ rfl; have e3 : wr.cell? ⟨b0, off + q * 12 + 3, none⟩ = some _ := hcell 3 _ rfl; have e4 : wr.cell? ⟨b0, off + q * 12 + 4, none⟩ = some _ := hcell 4 _ rfl; have e5 : wr.cell? ⟨b0, off + q * 12 + 5, none⟩ = some _ := hcell 5 _ rfl; have e6 : wr.cell? ⟨b0, off + q * 12 + 6, none⟩ = some _ := hcell 6 _ rfl; have e7 : wr.cell? ⟨b0, off + q * 12 + 7, none⟩ = some _ := hcell 7 _ rfl; have e8 : wr.cell? ⟨b0, off + q * 12 + 8, none⟩ = some _ := hcell 8 _ rfl; have e9 : wr.cell? ⟨b0, off + q * 12 + 9, none⟩ = some _ := hcell 9 _ rfl; have e10 : wr.cell? ⟨b0, off + q * 12 + 10, none⟩ = some _ := hcell 10 _ rfl; have e11 : wr.cell? ⟨b0, off + q * 12 + 11, none⟩ = some _ := hcell 11 _ rfl
      have HBN := Lib.hid (show B ++ bindsL (l.take (q + 1)) = (B ++ bindsL (l.take q)) ++ bindsOf (.mk k s a b body els) by rw [htk, bindsL_snoc, List.append_assoc])
      have HFN := Lib.hid (show merge F (lfree (l.take (q + 1)) B) = merge (merge F (lfree (l.take q) B)) (oneF (.mk k s a b body els) (B ++ bindsL (l.take q))) by rw [htk, lfree_snoc])
      have hBl : (B ++ bindsL (l.take q)).length ≤ B.length + St.wts (l.take q) := by rw [List.length_append]; have := bindsL_len (l.take q); omega
      have hFl : (merge F (lfree (l.take q) B)).length ≤ F.length + St.wts (l.take q) := Nat.le_trans (merge_len _ _) (by have := lfree_len (l.take q) B; omega)
      rw [St.wt] at hwq
      obtain ⟨B1, hB1⟩ : ∃ B1, B1 = B ++ bindsL (l.take q) := ⟨_, rfl⟩
      obtain ⟨F1, hF1⟩ : ∃ F1, F1 = merge F (lfree (l.take q) B) := ⟨_, rfl⟩
      rw [← hB1] at HBN HFN HK hBl
      rw [← hF1] at HFN HK hFl
      have HOKs : okS s := hs
      have HIB := Lib.hid (H.out _ _ _ _ _ _ hmem)
      have rva : RdE wr S a (exV k1 n1 s1 (.slice A1 m1 p1)) := RdEx.toE ra
      have rvb : RdE wr S b (exV k2 n2 s2 (.slice A2 m2 p2)) := RdEx.toE rb
      have hx1 : a.wt ≤ 1048576 := by omega
      have hx2 : b.wt ≤ 1048576 := by omega
      have hx3 : St.wts body ≤ 1048576 := by omega
      have hx4 : St.wts els ≤ 1048576 := by omega
      have hy : B1.length + 1 + (a.wt + b.wt + St.wts body + St.wts els) ≤ 1073741824 := by omega
      have hz : F1.length + (a.wt + b.wt + St.wts body + St.wts els) ≤ 1073741824 := by omega
      have HF1 := Lib.hid (show ∀ m : Nat, m ≤ a.wt + b.wt + St.wts body + St.wts els → F1.length + m ≤ 1073741824 from fun m hm => by omega)
      clear hwq hBl hFl hst htk hB1 hF1
      have hbel : Below wr.heap.size wr (wr.alloc (.cells #[.int .i64 k, .string s, .int .i64 k1, .int .i64 n1, .string s1, .slice A1 m1 p1, .int .i64 k2, .int .i64 n2, .string s2, .slice A2 m2 p2, .slice A3 body.length p3, .slice A4 els.length p4] 112)) := (Below.refl _ _).alloc (Nat.le_refl _) _
      have hsu : Sub S (Upto wr.heap.size) := HS.out.trans (Sub.upto hbr)
      have hrw : RW base S z wr.heap.size [.int .i64 k, .string s, .int .i64 k1, .int .i64 n1, .string s1, .slice A1 m1 p1, .int .i64 k2, .int .i64 n2, .string s2, .slice A2 m2 p2, .slice A3 body.length p3, .slice A4 els.length p4] a b (exV k1 n1 s1 (.slice A1 m1 p1)) (exV k2 n2 s2 (.slice A2 m2 p2)) body els (.slice A3 body.length p3) (.slice A4 els.length p4) vb' vf' wr (wr.alloc (.cells #[.int .i64 k, .string s, .int .i64 k1, .int .i64 n1, .string s1, .slice A1 m1 p1, .int .i64 k2, .int .i64 n2, .string s2, .slice A2 m2 p2, .slice A3 body.length p3, .slice A4 els.length p4] 112)) B1 F1 vb' vf' :=
        ⟨HK.out.below hbel, But.of_below hbel, New.refl _ _, New.refl _ _, fun k hk e => by have := HK.out.lt k hk; omega, ⟨Blk.made wr _ 112 hbr, rva.go hbel hsu, rvb.go hbel hsu, rv.go RdSt.keeps hbel hsu (Sub.refl _), rv'.go RdSt.keeps hbel hsu (Sub.refl _)⟩, HS.out⟩
      go_upto_region 3 with (fail)
      clear e0 e1 e2 e3 e4 e5 e6 e7 e8 e9 e10 e11 hcell hrd hcl ra rb rv rv' rva rvb hsame hbel hsu hmem
      have hwz0 : wr.heap.size < ((wr.alloc (.cells #[.int .i64 k, .string s, .int .i64 k1, .int .i64 n1, .string s1, .slice A1 m1 p1, .int .i64 k2, .int .i64 n2, .string s2, .slice A2 m2 p2, .slice A3 body.length p3, .slice A4 els.length p4] 112))).heap.size := by simp
      generalize (wr.alloc (.cells #[.int .i64 k, .string s, .int .i64 k1, .int .i64 n1, .string s1, .slice A1 m1 p1, .int .i64 k2, .int .i64 n2, .string s2, .slice A2 m2 p2, .slice A3 body.length p3, .slice A4 els.length p4] 112)) = W at *
      obtain ⟨d, hd⟩ : ∃ d, d = wr.heap.size := ⟨_, rfl⟩
      rw [← hd] at hrw
      rw [← hd]
      have hdW : d < W.heap.size := by omega
      have HR0 := Lib.hid hrw
      have HK0 := Lib.hid (show ∀ (w2 : World) (vb2 vf2 : Value), But (WT z vb' vf') wr w2 → New wr vb' vb2 → New wr vf' vf2 → But (WT z vb vf) w w2 ∧ New w vb vb2 ∧ New w vf vf2 from fun w2 vb2 vf2 g1 g2 g3 => ⟨WT.step HB.out g1 HN1.out HN2.out, HN1.out.trans g2 HB.out.size, HN2.out.trans g3 HB.out.size⟩)
      have c0 := hrw.rn.bd.cell 0 _ rfl; have c1 := hrw.rn.bd.cell 1 _ rfl; have c2 := hrw.rn.bd.cell 2 _ rfl; have c3 := hrw.rn.bd.cell 3 _ rfl; have c4 := hrw.rn.bd.cell 4 _ rfl; have c5 := hrw.rn.bd.cell 5 _ rfl; have c6 := hrw.rn.bd.cell 6 _ rfl; have c7 := hrw.rn.bd.cell 7 _ rfl; have c8 := hrw.rn.bd.cell 8 _ rfl; have c9 := hrw.rn.bd.cell 9 _ rfl; have c10 := hrw.rn.bd.cell 10 _ rfl; have c11 := hrw.rn.bd.cell 11 _ rfl
      clear hrw HB HN1 HN2 hd hb hb0 hwz0 HK
      by_cases h1 : k = 1
      · subst h1
        have HFN2 := Lib.hid (show merge F (lfree (l.take (q + 1)) B) = merge F1 (lnot a.names B1) by rw [HFN.out, oneF_let (.inl rfl)])
        have HBN2 := Lib.hid (show B ++ bindsL (l.take (q + 1)) = B1 ++ [s] by rw [HBN.out, bindsOf_let (.inl rfl)])
        have HBL := Lib.hid (show B1.length ≤ 1073741824 by omega)
        have HM0 := Lib.hid (show (F1).length + a.wt ≤ 1073741824 by
          omega)
        go_wp2_with fail
        refine (uses_any a base W S z B1 F1 vb' vf' _ HS.out (Nat.le_trans hbr HR0.out.but.size) HR0.out.rn.ra HR0.out.wk hx1 HBL.out HM0.out).mono ?_
        rintro e w1 ⟨⟨x1, rfl⟩, vf1, u1, u2, u3⟩
        have HR1 := Lib.hid (HR0.out.step u1 u2 (New.refl _ _) u3)
        clear u1 u2 u3 c0 c1 c2 c3 c4 c5 c6 c7 c8 c9 c10 c11
        have c0 := HR1.out.rn.bd.cell 0 _ rfl; have c1 := HR1.out.rn.bd.cell 1 _ rfl; have c2 := HR1.out.rn.bd.cell 2 _ rfl; have c3 := HR1.out.rn.bd.cell 3 _ rfl; have c4 := HR1.out.rn.bd.cell 4 _ rfl; have c5 := HR1.out.rn.bd.cell 5 _ rfl; have c6 := HR1.out.rn.bd.cell 6 _ rfl; have c7 := HR1.out.rn.bd.cell 7 _ rfl; have c8 := HR1.out.rn.bd.cell 8 _ rfl; have c9 := HR1.out.rn.bd.cell 9 _ rfl; have c10 := HR1.out.rn.bd.cell 10 _ rfl; have c11 := HR1.out.rn.bd.cell 11 _ rfl
        have hld := HR1.out.rn.bd.lt
        obtain ⟨Ab, cb, rfl⟩ := HR1.out.wk.ob.form
        have z0 := HR1.out.wk.blk.cell 0 _ rfl
        have H2d := Lib.hid (HR1.out.wk.ob.keep Flat.keeps ((Below.refl _ _).alloc (Nat.le_refl _) (.cells #[.string s] 9)).drew)
        have m1 := Lib.hid (show B1.length + [s].length ≤ maxLen by unfold maxLen; simp; omega)
        have m2 := Lib.hid (show (B1.length + [s].length) * 16 ≤ 140737488355328 by simp; omega)
        have HRD := Lib.hid (show RdSs (w1.alloc (.cells #[.string s] 9)).drew (fun _ => True) [s] (.slice (some ⟨w1.heap.size, 0, none⟩) 1 1) from rd_one (enc := encS) (x := s) rfl (cells_newAt w1 [.string s] 9 rfl) HOKs trivial (by decide))
        have HRa := Lib.hid (HR1.out.alloc ((Below.refl _ _).alloc (Nat.le_refl _) (.cells #[.string s] 9)).drew)
        have HBB := Lib.hid (show base ≤ (w1.alloc (.cells #[.string s] 9)).drew.heap.size from Nat.le_trans hbr HRa.out.but.size)
        have HND := Lib.hid (show (Value.slice Ab B1.length cb).ownBlock ≠ some z from fun e => HR1.out.wk.nb z e rfl)
        have hzl := HR1.out.wk.blk.lt
        go_wp2_with fail
        go_region_law ((refine step_append_list (by rfl) (.tmp 25) (.tmp 28) 69 (by rfl) (by rfl) (by rfl) i0 _ Try.underlying69 hi hz0 hz1' hz2 rfl (by decide) Flat.keeps (l := B1) (m := [s]) (base := base) (S := Nowhere) (Tx := Nowhere) (U := fun _ => True) (v := .slice Ab B1.length cb) (RdL.bare HRD.out _) H2d.out (Sub.nowhere _) (Sub.nowhere _) not_nowhere oneS m1.out m2.out HBB.out ?_; intro v' w2 ho1 hg1 hw1; obtain ⟨A', c', rfl⟩ := ho1.form; have k0 : w2.cell? ⟨z, 0, none⟩ = some (.slice Ab B1.length cb) := grown_cell hg1 (HRa.out.wk.blk.cell 0 _ rfl) HND.out; have kf : w2.frozen? ⟨z, 0, none⟩ = false := grown_frozen hg1 (HRa.out.wk.blk.fr 0) HRa.out.wk.blk.lt HND.out))
        all_goals (
          obtain ⟨p1, p2, p3⟩ := Wk.pushB HRa.out.wk hg1 ho1 (own_cases hw1 (Nat.le_refl _))
          have HR2 := Lib.hid (HRa.out.step p1 p2 p3 (New.refl _ _))
          clear p1 p2 p3 ho1 hg1 hw1 k0 kf z0 c0 c1 c2 c3 c4 c5 c6 c7 c8 c9 c10 c11
          rw [List.length_append, List.length_singleton] at HR2
          go_wp2_with fail
          go_roundw
          case rel => exact ⟨q + 1, by omega, by go_num, _, _, Lib.hid (by rw [HFN2.out, HBN2.out]; exact HR2.out.wk), Lib.hid (HK0.out _ _ _ HR2.out.but HR2.out.nb HR2.out.nf).1, Lib.hid (HK0.out _ _ _ HR2.out.but HR2.out.nb HR2.out.nf).2.1, Lib.hid (HK0.out _ _ _ HR2.out.but HR2.out.nb HR2.out.nf).2.2⟩
          case measure => simp [intOf]; omega)
      by_cases h2 : k = 2
      · subst h2
        have HFN2 := Lib.hid (show merge F (lfree (l.take (q + 1)) B) = merge F1 (lnot a.names B1) by rw [HFN.out, oneF_let (.inr rfl)])
        have HBN2 := Lib.hid (show B ++ bindsL (l.take (q + 1)) = B1 ++ [s] by rw [HBN.out, bindsOf_let (.inr rfl)])
        have HBL := Lib.hid (show B1.length ≤ 1073741824 by omega)
        have HM0 := Lib.hid (show (F1).length + a.wt ≤ 1073741824 by
          omega)
        go_wp2_with fail
        refine (uses_any a base W S z B1 F1 vb' vf' _ HS.out (Nat.le_trans hbr HR0.out.but.size) HR0.out.rn.ra HR0.out.wk hx1 HBL.out HM0.out).mono ?_
        rintro e w1 ⟨⟨x1, rfl⟩, vf1, u1, u2, u3⟩
        have HR1 := Lib.hid (HR0.out.step u1 u2 (New.refl _ _) u3)
        clear u1 u2 u3 c0 c1 c2 c3 c4 c5 c6 c7 c8 c9 c10 c11
        have c0 := HR1.out.rn.bd.cell 0 _ rfl; have c1 := HR1.out.rn.bd.cell 1 _ rfl; have c2 := HR1.out.rn.bd.cell 2 _ rfl; have c3 := HR1.out.rn.bd.cell 3 _ rfl; have c4 := HR1.out.rn.bd.cell 4 _ rfl; have c5 := HR1.out.rn.bd.cell 5 _ rfl; have c6 := HR1.out.rn.bd.cell 6 _ rfl; have c7 := HR1.out.rn.bd.cell 7 _ rfl; have c8 := HR1.out.rn.bd.cell 8 _ rfl; have c9 := HR1.out.rn.bd.cell 9 _ rfl; have c10 := HR1.out.rn.bd.cell 10 _ rfl; have c11 := HR1.out.rn.bd.cell 11 _ rfl
        have hld := HR1.out.rn.bd.lt
        obtain ⟨Ab, cb, rfl⟩ := HR1.out.wk.ob.form
        have z0 := HR1.out.wk.blk.cell 0 _ rfl
        have H2d := Lib.hid (HR1.out.wk.ob.keep Flat.keeps ((Below.refl _ _).alloc (Nat.le_refl _) (.cells #[.string s] 9)).drew)
        have m1 := Lib.hid (show B1.length + [s].length ≤ maxLen by unfold maxLen; simp; omega)
        have m2 := Lib.hid (show (B1.length + [s].length) * 16 ≤ 140737488355328 by simp; omega)
        have HRD := Lib.hid (show RdSs (w1.alloc (.cells #[.string s] 9)).drew (fun _ => True) [s] (.slice (some ⟨w1.heap.size, 0, none⟩) 1 1) from rd_one (enc := encS) (x := s) rfl (cells_newAt w1 [.string s] 9 rfl) HOKs trivial (by decide))
        have HRa := Lib.hid (HR1.out.alloc ((Below.refl _ _).alloc (Nat.le_refl _) (.cells #[.string s] 9)).drew)
        have HBB := Lib.hid (show base ≤ (w1.alloc (.cells #[.string s] 9)).drew.heap.size from Nat.le_trans hbr HRa.out.but.size)
        have HND := Lib.hid (show (Value.slice Ab B1.length cb).ownBlock ≠ some z from fun e => HR1.out.wk.nb z e rfl)
        have hzl := HR1.out.wk.blk.lt
        go_wp2_with fail
        go_region_law ((refine step_append_list (by rfl) (.tmp 25) (.tmp 28) 69 (by rfl) (by rfl) (by rfl) i0 _ Try.underlying69 hi hz0 hz1' hz2 rfl (by decide) Flat.keeps (l := B1) (m := [s]) (base := base) (S := Nowhere) (Tx := Nowhere) (U := fun _ => True) (v := .slice Ab B1.length cb) (RdL.bare HRD.out _) H2d.out (Sub.nowhere _) (Sub.nowhere _) not_nowhere oneS m1.out m2.out HBB.out ?_; intro v' w2 ho1 hg1 hw1; obtain ⟨A', c', rfl⟩ := ho1.form; have k0 : w2.cell? ⟨z, 0, none⟩ = some (.slice Ab B1.length cb) := grown_cell hg1 (HRa.out.wk.blk.cell 0 _ rfl) HND.out; have kf : w2.frozen? ⟨z, 0, none⟩ = false := grown_frozen hg1 (HRa.out.wk.blk.fr 0) HRa.out.wk.blk.lt HND.out))
        all_goals (
          obtain ⟨p1, p2, p3⟩ := Wk.pushB HRa.out.wk hg1 ho1 (own_cases hw1 (Nat.le_refl _))
          have HR2 := Lib.hid (HRa.out.step p1 p2 p3 (New.refl _ _))
          clear p1 p2 p3 ho1 hg1 hw1 k0 kf z0 c0 c1 c2 c3 c4 c5 c6 c7 c8 c9 c10 c11
          rw [List.length_append, List.length_singleton] at HR2
          go_wp2_with fail
          go_roundw
          case rel => exact ⟨q + 1, by omega, by go_num, _, _, Lib.hid (by rw [HFN2.out, HBN2.out]; exact HR2.out.wk), Lib.hid (HK0.out _ _ _ HR2.out.but HR2.out.nb HR2.out.nf).1, Lib.hid (HK0.out _ _ _ HR2.out.but HR2.out.nb HR2.out.nf).2.1, Lib.hid (HK0.out _ _ _ HR2.out.but HR2.out.nb HR2.out.nf).2.2⟩
          case measure => simp [intOf]; omega)
      by_cases h3 : k = 3
      · subst h3
        have HFN2 := Lib.hid (show merge F (lfree (l.take (q + 1)) B) = merge (merge F1 (lnot a.names B1)) (lnot b.names B1) by rw [HFN.out, oneF_store, merge_assoc])
        have HBN2 := Lib.hid (show B ++ bindsL (l.take (q + 1)) = B1 by rw [HBN.out, bindsOf_no (by omega), List.append_nil])
        have HBL := Lib.hid (show B1.length ≤ 1073741824 by omega)
        have HM0 := Lib.hid (show (F1).length + a.wt ≤ 1073741824 by
          omega)
        have HM1 := Lib.hid (show (merge F1 (lnot a.names B1)).length + b.wt ≤ 1073741824 by
          have := merge_len F1 (lnot a.names B1)
          have := Nat.le_trans (lnot_len a.names B1) a.names_len
          omega)
        go_wp2_with fail
        refine (uses_any a base W S z B1 F1 vb' vf' _ HS.out (Nat.le_trans hbr HR0.out.but.size) HR0.out.rn.ra HR0.out.wk hx1 HBL.out HM0.out).mono ?_
        rintro e w1 ⟨⟨x1, rfl⟩, vf1, u1, u2, u3⟩
        have HR1 := Lib.hid (HR0.out.step u1 u2 (New.refl _ _) u3)
        clear u1 u2 u3 c0 c1 c2 c3 c4 c5 c6 c7 c8 c9 c10 c11
        have c0 := HR1.out.rn.bd.cell 0 _ rfl; have c1 := HR1.out.rn.bd.cell 1 _ rfl; have c2 := HR1.out.rn.bd.cell 2 _ rfl; have c3 := HR1.out.rn.bd.cell 3 _ rfl; have c4 := HR1.out.rn.bd.cell 4 _ rfl; have c5 := HR1.out.rn.bd.cell 5 _ rfl; have c6 := HR1.out.rn.bd.cell 6 _ rfl; have c7 := HR1.out.rn.bd.cell 7 _ rfl; have c8 := HR1.out.rn.bd.cell 8 _ rfl; have c9 := HR1.out.rn.bd.cell 9 _ rfl; have c10 := HR1.out.rn.bd.cell 10 _ rfl; have c11 := HR1.out.rn.bd.cell 11 _ rfl
        have hld := HR1.out.rn.bd.lt
        go_wp2_with fail
        refine (uses_any b base w1 S z B1 _ vb' vf1 _ HS.out (Nat.le_trans hbr HR1.out.but.size) HR1.out.rn.rb HR1.out.wk hx2 HBL.out HM1.out).mono ?_
        rintro e w2 ⟨⟨x2, rfl⟩, vf2, u1, u2, u3⟩
        have HR2 := Lib.hid (HR1.out.step u1 u2 (New.refl _ _) u3)
        clear u1 u2 u3 c0 c1 c2 c3 c4 c5 c6 c7 c8 c9 c10 c11
        have c0 := HR2.out.rn.bd.cell 0 _ rfl; have c1 := HR2.out.rn.bd.cell 1 _ rfl; have c2 := HR2.out.rn.bd.cell 2 _ rfl; have c3 := HR2.out.rn.bd.cell 3 _ rfl; have c4 := HR2.out.rn.bd.cell 4 _ rfl; have c5 := HR2.out.rn.bd.cell 5 _ rfl; have c6 := HR2.out.rn.bd.cell 6 _ rfl; have c7 := HR2.out.rn.bd.cell 7 _ rfl; have c8 := HR2.out.rn.bd.cell 8 _ rfl; have c9 := HR2.out.rn.bd.cell 9 _ rfl; have c10 := HR2.out.rn.bd.cell 10 _ rfl; have c11 := HR2.out.rn.bd.cell 11 _ rfl
        have hld := HR2.out.rn.bd.lt
        go_wp2_with fail
        go_roundw
        case rel => exact ⟨q + 1, by omega, by go_num, _, _, Lib.hid (by rw [HFN2.out, HBN2.out]; exact HR2.out.wk), Lib.hid (HK0.out _ _ _ HR2.out.but HR2.out.nb HR2.out.nf).1, Lib.hid (HK0.out _ _ _ HR2.out.but HR2.out.nb HR2.out.nf).2.1, Lib.hid (HK0.out _ _ _ HR2.out.but HR2.out.nb HR2.out.nf).2.2⟩
        case measure => simp [intOf]; omega
      by_cases h4 : k = 4
      · subst h4
        have HFN2 := Lib.hid (show merge F (lfree (l.take (q + 1)) B) = merge F1 (lfree body B1) by rw [HFN.out, oneF_async (.inl rfl)])
        have HBN2 := Lib.hid (show B ++ bindsL (l.take (q + 1)) = B1 by rw [HBN.out, bindsOf_no (by omega), List.append_nil])
        have HBW := Lib.hid (show B1.length + ([] : List Str).length + St.wts body ≤ 1073741824 by simp; omega)
        have HM0 := Lib.hid (show (F1).length + St.wts body ≤ 1073741824 by
          omega)
        go_wp2_with fail
        refine (within_any body HIB.out.1 [] base W S z B1 F1 vb' vf' _ _ HS.out (Nat.le_trans hbr HR0.out.but.size) HR0.out.rn.r1 (Fr.nil (by simp [maxLen])) HR0.out.wk hx3 HBW.out HM0.out).mono ?_
        rintro e w1 ⟨⟨x1, rfl⟩, vb1, vf1, u1, u2, u3, u4⟩
        rw [List.append_nil] at u1
        have HR1 := Lib.hid (HR0.out.step u1 u2 u3 u4)
        clear u1 u2 u3 u4 c0 c1 c2 c3 c4 c5 c6 c7 c8 c9 c10 c11
        have c0 := HR1.out.rn.bd.cell 0 _ rfl; have c1 := HR1.out.rn.bd.cell 1 _ rfl; have c2 := HR1.out.rn.bd.cell 2 _ rfl; have c3 := HR1.out.rn.bd.cell 3 _ rfl; have c4 := HR1.out.rn.bd.cell 4 _ rfl; have c5 := HR1.out.rn.bd.cell 5 _ rfl; have c6 := HR1.out.rn.bd.cell 6 _ rfl; have c7 := HR1.out.rn.bd.cell 7 _ rfl; have c8 := HR1.out.rn.bd.cell 8 _ rfl; have c9 := HR1.out.rn.bd.cell 9 _ rfl; have c10 := HR1.out.rn.bd.cell 10 _ rfl; have c11 := HR1.out.rn.bd.cell 11 _ rfl
        have hld := HR1.out.rn.bd.lt
        go_wp2_with fail
        go_roundw
        case rel => exact ⟨q + 1, by omega, by go_num, _, _, Lib.hid (by rw [HFN2.out, HBN2.out]; exact HR1.out.wk), Lib.hid (HK0.out _ _ _ HR1.out.but HR1.out.nb HR1.out.nf).1, Lib.hid (HK0.out _ _ _ HR1.out.but HR1.out.nb HR1.out.nf).2.1, Lib.hid (HK0.out _ _ _ HR1.out.but HR1.out.nb HR1.out.nf).2.2⟩
        case measure => simp [intOf]; omega
      by_cases h5 : k = 5
      · subst h5
        have HFN2 := Lib.hid (show merge F (lfree (l.take (q + 1)) B) = merge F1 (lfree body B1) by rw [HFN.out, oneF_async (.inr rfl)])
        have HBN2 := Lib.hid (show B ++ bindsL (l.take (q + 1)) = B1 by rw [HBN.out, bindsOf_no (by omega), List.append_nil])
        have HBW := Lib.hid (show B1.length + ([] : List Str).length + St.wts body ≤ 1073741824 by simp; omega)
        have HM0 := Lib.hid (show (F1).length + St.wts body ≤ 1073741824 by
          omega)
        go_wp2_with fail
        refine (within_any body HIB.out.1 [] base W S z B1 F1 vb' vf' _ _ HS.out (Nat.le_trans hbr HR0.out.but.size) HR0.out.rn.r1 (Fr.nil (by simp [maxLen])) HR0.out.wk hx3 HBW.out HM0.out).mono ?_
        rintro e w1 ⟨⟨x1, rfl⟩, vb1, vf1, u1, u2, u3, u4⟩
        rw [List.append_nil] at u1
        have HR1 := Lib.hid (HR0.out.step u1 u2 u3 u4)
        clear u1 u2 u3 u4 c0 c1 c2 c3 c4 c5 c6 c7 c8 c9 c10 c11
        have c0 := HR1.out.rn.bd.cell 0 _ rfl; have c1 := HR1.out.rn.bd.cell 1 _ rfl; have c2 := HR1.out.rn.bd.cell 2 _ rfl; have c3 := HR1.out.rn.bd.cell 3 _ rfl; have c4 := HR1.out.rn.bd.cell 4 _ rfl; have c5 := HR1.out.rn.bd.cell 5 _ rfl; have c6 := HR1.out.rn.bd.cell 6 _ rfl; have c7 := HR1.out.rn.bd.cell 7 _ rfl; have c8 := HR1.out.rn.bd.cell 8 _ rfl; have c9 := HR1.out.rn.bd.cell 9 _ rfl; have c10 := HR1.out.rn.bd.cell 10 _ rfl; have c11 := HR1.out.rn.bd.cell 11 _ rfl
        have hld := HR1.out.rn.bd.lt
        go_wp2_with fail
        go_roundw
        case rel => exact ⟨q + 1, by omega, by go_num, _, _, Lib.hid (by rw [HFN2.out, HBN2.out]; exact HR1.out.wk), Lib.hid (HK0.out _ _ _ HR1.out.but HR1.out.nb HR1.out.nf).1, Lib.hid (HK0.out _ _ _ HR1.out.but HR1.out.nb HR1.out.nf).2.1, Lib.hid (HK0.out _ _ _ HR1.out.but HR1.out.nb HR1.out.nf).2.2⟩
        case measure => simp [intOf]; omega
      by_cases h6 : k = 6
      · subst h6
        have HFN2 := Lib.hid (show merge F (lfree (l.take (q + 1)) B) = merge (merge (merge F1 (lnot a.names B1)) (lfree body B1)) (lfree els B1) by rw [HFN.out, oneF_if, merge_assoc, merge_assoc])
        have HBN2 := Lib.hid (show B ++ bindsL (l.take (q + 1)) = B1 by rw [HBN.out, bindsOf_no (by omega), List.append_nil])
        have HBL := Lib.hid (show B1.length ≤ 1073741824 by omega)
        have HM0 := Lib.hid (show (F1).length + a.wt ≤ 1073741824 by
          omega)
        have HM1 := Lib.hid (show (merge F1 (lnot a.names B1)).length + St.wts body ≤ 1073741824 by
          have := merge_len F1 (lnot a.names B1)
          have := Nat.le_trans (lnot_len a.names B1) a.names_len
          omega)
        have HM2 := Lib.hid (show (merge (merge F1 (lnot a.names B1)) (lfree body B1)).length + St.wts els ≤ 1073741824 by
          have := merge_len (merge F1 (lnot a.names B1)) (lfree body B1)
          have := merge_len F1 (lnot a.names B1)
          have := Nat.le_trans (lnot_len a.names B1) a.names_len
          have := lfree_len body B1
          omega)
        have HBW := Lib.hid (show B1.length + ([] : List Str).length + St.wts body ≤ 1073741824 by simp; omega)
        have HBV := Lib.hid (show B1.length + ([] : List Str).length + St.wts els ≤ 1073741824 by simp; omega)
        go_wp2_with fail
        refine (uses_any a base W S z B1 F1 vb' vf' _ HS.out (Nat.le_trans hbr HR0.out.but.size) HR0.out.rn.ra HR0.out.wk hx1 HBL.out HM0.out).mono ?_
        rintro e w1 ⟨⟨x1, rfl⟩, vf1, u1, u2, u3⟩
        have HR1 := Lib.hid (HR0.out.step u1 u2 (New.refl _ _) u3)
        clear u1 u2 u3 c0 c1 c2 c3 c4 c5 c6 c7 c8 c9 c10 c11
        have c0 := HR1.out.rn.bd.cell 0 _ rfl; have c1 := HR1.out.rn.bd.cell 1 _ rfl; have c2 := HR1.out.rn.bd.cell 2 _ rfl; have c3 := HR1.out.rn.bd.cell 3 _ rfl; have c4 := HR1.out.rn.bd.cell 4 _ rfl; have c5 := HR1.out.rn.bd.cell 5 _ rfl; have c6 := HR1.out.rn.bd.cell 6 _ rfl; have c7 := HR1.out.rn.bd.cell 7 _ rfl; have c8 := HR1.out.rn.bd.cell 8 _ rfl; have c9 := HR1.out.rn.bd.cell 9 _ rfl; have c10 := HR1.out.rn.bd.cell 10 _ rfl; have c11 := HR1.out.rn.bd.cell 11 _ rfl
        have hld := HR1.out.rn.bd.lt
        go_wp2_with fail
        refine (within_any body HIB.out.1 [] base w1 S z B1 _ vb' vf1 _ _ HS.out (Nat.le_trans hbr HR1.out.but.size) HR1.out.rn.r1 (Fr.nil (by simp [maxLen])) HR1.out.wk hx3 HBW.out HM1.out).mono ?_
        rintro e w2 ⟨⟨x2, rfl⟩, vb2, vf2, u1, u2, u3, u4⟩
        rw [List.append_nil] at u1
        have HR2 := Lib.hid (HR1.out.step u1 u2 u3 u4)
        clear u1 u2 u3 u4 c0 c1 c2 c3 c4 c5 c6 c7 c8 c9 c10 c11
        have c0 := HR2.out.rn.bd.cell 0 _ rfl; have c1 := HR2.out.rn.bd.cell 1 _ rfl; have c2 := HR2.out.rn.bd.cell 2 _ rfl; have c3 := HR2.out.rn.bd.cell 3 _ rfl; have c4 := HR2.out.rn.bd.cell 4 _ rfl; have c5 := HR2.out.rn.bd.cell 5 _ rfl; have c6 := HR2.out.rn.bd.cell 6 _ rfl; have c7 := HR2.out.rn.bd.cell 7 _ rfl; have c8 := HR2.out.rn.bd.cell 8 _ rfl; have c9 := HR2.out.rn.bd.cell 9 _ rfl; have c10 := HR2.out.rn.bd.cell 10 _ rfl; have c11 := HR2.out.rn.bd.cell 11 _ rfl
        have hld := HR2.out.rn.bd.lt
        go_wp2_with fail
        refine (within_any els HIB.out.2 [] base w2 S z B1 _ vb2 vf2 _ _ HS.out (Nat.le_trans hbr HR2.out.but.size) HR2.out.rn.r2 (Fr.nil (by simp [maxLen])) HR2.out.wk hx4 HBV.out HM2.out).mono ?_
        rintro e w3 ⟨⟨x3, rfl⟩, vb3, vf3, u1, u2, u3, u4⟩
        rw [List.append_nil] at u1
        have HR3 := Lib.hid (HR2.out.step u1 u2 u3 u4)
        clear u1 u2 u3 u4 c0 c1 c2 c3 c4 c5 c6 c7 c8 c9 c10 c11
        have c0 := HR3.out.rn.bd.cell 0 _ rfl; have c1 := HR3.out.rn.bd.cell 1 _ rfl; have c2 := HR3.out.rn.bd.cell 2 _ rfl; have c3 := HR3.out.rn.bd.cell 3 _ rfl; have c4 := HR3.out.rn.bd.cell 4 _ rfl; have c5 := HR3.out.rn.bd.cell 5 _ rfl; have c6 := HR3.out.rn.bd.cell 6 _ rfl; have c7 := HR3.out.rn.bd.cell 7 _ rfl; have c8 := HR3.out.rn.bd.cell 8 _ rfl; have c9 := HR3.out.rn.bd.cell 9 _ rfl; have c10 := HR3.out.rn.bd.cell 10 _ rfl; have c11 := HR3.out.rn.bd.cell 11 _ rfl
        have hld := HR3.out.rn.bd.lt
        go_wp2_with fail
        go_roundw
        case rel => exact ⟨q + 1, by omega, by go_num, _, _, Lib.hid (by rw [HFN2.out, HBN2.out]; exact HR3.out.wk), Lib.hid (HK0.out _ _ _ HR3.out.but HR3.out.nb HR3.out.nf).1, Lib.hid (HK0.out _ _ _ HR3.out.but HR3.out.nb HR3.out.nf).2.1, Lib.hid (HK0.out _ _ _ HR3.out.but HR3.out.nb HR3.out.nf).2.2⟩
        case measure => simp [intOf]; omega
      by_cases h7 : k = 7
      · subst h7
        have HFN2 := Lib.hid (show merge F (lfree (l.take (q + 1)) B) = merge (merge (merge F1 (lnot a.names B1)) (lnot b.names B1)) (lfree body (B1 ++ [s])) by rw [HFN.out, oneF_for, merge_assoc, merge_assoc])
        have HBN2 := Lib.hid (show B ++ bindsL (l.take (q + 1)) = B1 by rw [HBN.out, bindsOf_no (by omega), List.append_nil])
        have HBL := Lib.hid (show B1.length ≤ 1073741824 by omega)
        have HM0 := Lib.hid (show (F1).length + a.wt ≤ 1073741824 by
          omega)
        have HM1 := Lib.hid (show (merge F1 (lnot a.names B1)).length + b.wt ≤ 1073741824 by
          have := merge_len F1 (lnot a.names B1)
          have := Nat.le_trans (lnot_len a.names B1) a.names_len
          omega)
        have HM2 := Lib.hid (show (merge (merge F1 (lnot a.names B1)) (lnot b.names B1)).length + St.wts body ≤ 1073741824 by
          have := merge_len (merge F1 (lnot a.names B1)) (lnot b.names B1)
          have := merge_len F1 (lnot a.names B1)
          have := Nat.le_trans (lnot_len a.names B1) a.names_len
          have := Nat.le_trans (lnot_len b.names B1) b.names_len
          omega)
        have HBW := Lib.hid (show B1.length + [s].length + St.wts body ≤ 1073741824 by simp; omega)
        go_wp2_with fail
        refine (uses_any a base W S z B1 F1 vb' vf' _ HS.out (Nat.le_trans hbr HR0.out.but.size) HR0.out.rn.ra HR0.out.wk hx1 HBL.out HM0.out).mono ?_
        rintro e w1 ⟨⟨x1, rfl⟩, vf1, u1, u2, u3⟩
        have HR1 := Lib.hid (HR0.out.step u1 u2 (New.refl _ _) u3)
        clear u1 u2 u3 c0 c1 c2 c3 c4 c5 c6 c7 c8 c9 c10 c11
        have c0 := HR1.out.rn.bd.cell 0 _ rfl; have c1 := HR1.out.rn.bd.cell 1 _ rfl; have c2 := HR1.out.rn.bd.cell 2 _ rfl; have c3 := HR1.out.rn.bd.cell 3 _ rfl; have c4 := HR1.out.rn.bd.cell 4 _ rfl; have c5 := HR1.out.rn.bd.cell 5 _ rfl; have c6 := HR1.out.rn.bd.cell 6 _ rfl; have c7 := HR1.out.rn.bd.cell 7 _ rfl; have c8 := HR1.out.rn.bd.cell 8 _ rfl; have c9 := HR1.out.rn.bd.cell 9 _ rfl; have c10 := HR1.out.rn.bd.cell 10 _ rfl; have c11 := HR1.out.rn.bd.cell 11 _ rfl
        have hld := HR1.out.rn.bd.lt
        go_wp2_with fail
        refine (uses_any b base w1 S z B1 _ vb' vf1 _ HS.out (Nat.le_trans hbr HR1.out.but.size) HR1.out.rn.rb HR1.out.wk hx2 HBL.out HM1.out).mono ?_
        rintro e w2 ⟨⟨x2, rfl⟩, vf2, u1, u2, u3⟩
        have HR2 := Lib.hid (HR1.out.step u1 u2 (New.refl _ _) u3)
        clear u1 u2 u3 c0 c1 c2 c3 c4 c5 c6 c7 c8 c9 c10 c11
        have c0 := HR2.out.rn.bd.cell 0 _ rfl; have c1 := HR2.out.rn.bd.cell 1 _ rfl; have c2 := HR2.out.rn.bd.cell 2 _ rfl; have c3 := HR2.out.rn.bd.cell 3 _ rfl; have c4 := HR2.out.rn.bd.cell 4 _ rfl; have c5 := HR2.out.rn.bd.cell 5 _ rfl; have c6 := HR2.out.rn.bd.cell 6 _ rfl; have c7 := HR2.out.rn.bd.cell 7 _ rfl; have c8 := HR2.out.rn.bd.cell 8 _ rfl; have c9 := HR2.out.rn.bd.cell 9 _ rfl; have c10 := HR2.out.rn.bd.cell 10 _ rfl; have c11 := HR2.out.rn.bd.cell 11 _ rfl
        have hld := HR2.out.rn.bd.lt
        have HRa := Lib.hid (HR2.out.alloc ((Below.refl _ _).alloc (Nat.le_refl _) (.cells #[.string s] 9)))
        have HFR := Lib.hid (show FrS (w2.alloc (.cells #[.string s] 9)) [s] (.slice (some ⟨w2.heap.size, 0, none⟩) 1 1) from ⟨Is w2.heap.size, fun b hb => by unfold Is at hb; subst hb; simp [Upto], rdS_one (by simp) HOKs rfl⟩)
        go_wp2_with fail
        refine (within_any body HIB.out.1 [s] base _ S z B1 _ vb' vf2 _ _ HS.out (Nat.le_trans hbr HRa.out.but.size) HRa.out.rn.r1 HFR.out HRa.out.wk hx3 HBW.out HM2.out).mono ?_
        rintro e w3 ⟨⟨x3, rfl⟩, vb3, vf3, u1, u2, u3, u4⟩
        skip
        have HR3 := Lib.hid (HRa.out.step u1 u2 u3 u4)
        clear u1 u2 u3 u4 c0 c1 c2 c3 c4 c5 c6 c7 c8 c9 c10 c11
        have c0 := HR3.out.rn.bd.cell 0 _ rfl; have c1 := HR3.out.rn.bd.cell 1 _ rfl; have c2 := HR3.out.rn.bd.cell 2 _ rfl; have c3 := HR3.out.rn.bd.cell 3 _ rfl; have c4 := HR3.out.rn.bd.cell 4 _ rfl; have c5 := HR3.out.rn.bd.cell 5 _ rfl; have c6 := HR3.out.rn.bd.cell 6 _ rfl; have c7 := HR3.out.rn.bd.cell 7 _ rfl; have c8 := HR3.out.rn.bd.cell 8 _ rfl; have c9 := HR3.out.rn.bd.cell 9 _ rfl; have c10 := HR3.out.rn.bd.cell 10 _ rfl; have c11 := HR3.out.rn.bd.cell 11 _ rfl
        have hld := HR3.out.rn.bd.lt
        go_wp2_with fail
        go_roundw
        case rel => exact ⟨q + 1, by omega, by go_num, _, _, Lib.hid (by rw [HFN2.out, HBN2.out]; exact HR3.out.wk), Lib.hid (HK0.out _ _ _ HR3.out.but HR3.out.nb HR3.out.nf).1, Lib.hid (HK0.out _ _ _ HR3.out.but HR3.out.nb HR3.out.nf).2.1, Lib.hid (HK0.out _ _ _ HR3.out.but HR3.out.nb HR3.out.nf).2.2⟩
        case measure => simp [intOf]; omega
      have HFN2 := Lib.hid (show merge F (lfree (l.take (q + 1)) B) = F1 by rw [HFN.out, oneF_other (by omega), merge_nil])
      have HBN2 := Lib.hid (show B ++ bindsL (l.take (q + 1)) = B1 by rw [HBN.out, bindsOf_no (by omega), List.append_nil])
      have g1 : (k == 1) = false := (by simpa using h1); have g2 : (k == 2) = false := (by simpa using h2); have g3 : (k == 3) = false := (by simpa using h3); have g4 : (k == 4) = false := (by simpa using h4); have g5 : (k == 5) = false := (by simpa using h5); have g6 : (k == 6) = false := (by simpa using h6); have g7 : (k == 7) = false := (by simpa using h7)
      clear h1 h2 h3 h4 h5 h6 h7
      go_wp2_with fail
      go_roundw
      case rel => exact ⟨q + 1, by omega, by go_num, _, _, Lib.hid (by rw [HFN2.out, HBN2.out]; exact HR0.out.wk), Lib.hid (HK0.out _ _ _ HR0.out.but HR0.out.nb HR0.out.nf).1, Lib.hid (HK0.out _ _ _ HR0.out.but HR0.out.nb HR0.out.nf).2.1, Lib.hid (HK0.out _ _ _ HR0.out.but HR0.out.nb HR0.out.nf).2.2⟩
      case measure => simp [intOf]; omega
    · have hqe : q = l.length := by omega
      subst hqe
      rw [List.take_length] at HK
      go_wp2
      go_end0
      exact ⟨⟨_, rfl⟩, vb', vf', HK.out, HB.out, HN1.out, HN2.out⟩
end Go.Proofs.Ytdelngmbpjgphaa
