/- The walk of the reference's nstate.block. -/
import Derived.Test.YtdelngmbpjgphaaUn7
import Derived.Deep.CutBlock
namespace Go.Proofs.Ytdelngmbpjgphaa
open Go.RowKit
set_option linter.unusedVariables false
set_option maxHeartbeats 1000000 in
set_option maxRecDepth 100000 in
theorem with_anyN (env : List Bd) (hlen : env.length ≤ 2000) (s : ByteArray) (hs : s.size ≤ 140737488355328) (v : Int) (hv : inI v) (w : World) (X : Blocks) (ve : Value) (g y : Nat) (cs : List Value) (hX : ∀ k, X k → k < w.heap.size) (hf : FrX X w env ve) (hg : w.cell? ⟨g, 0, none⟩ = some ve) (hy : w.cell? ⟨y, 1, none⟩ = some (.string s)) :
    Calls Try.prog 50 #[vI v, .pointer (some ⟨g, 0, none⟩), .pointer (some ⟨y, 0, none⟩)] w fun e w' => (∃ x, e = .returned x ∧ FrX X w' (env ++ [⟨s, v⟩]) x) ∧ Below w.heap.size w w' := by
  obtain ⟨i0, hi, hz0, hz1', hz2⟩ := info_parts infoBd
  obtain ⟨A, c, rfl, hc1, hc2⟩ := hf.form
  have hgl : g < w.heap.size := World.block_lt_of_cell? w _ hg
  have hyl : y < w.heap.size := World.block_lt_of_cell? w _ hy
  have HFR := Lib.hid hf.fr
  have HX := Lib.hid hX
  have HWP := Lib.hid (fun w' h => Stay.size h : ∀ w', Stay w w' → w.heap.size ≤ w'.heap.size)
  have HOK := Lib.hid (show okBd ⟨s, v⟩ from ⟨hs, hv⟩)
  have mb1 := Lib.hid (show (env.length + [(⟨s, v⟩ : Bd)].length) * 24 ≤ 140737488355328 by simp; omega)
  have mb2 := Lib.hid (show env.length + [(⟨s, v⟩ : Bd)].length ≤ maxLen by unfold maxLen; simp; omega)
  have hst0 : Stay w w := Stay.of (Below.refl _ _)
  clear hf hX
  go_enter Try.func50, Try.ntmps50
  go_upto_region 1 with (fail)
  go_region_held3 (fun w' => Stay w w') (first | assumption | exact Stay.mk (Kept.start _) | ((refine Stay.mk ?_; (repeat (with_reducible first | refine Kept.set ?_ (by omega) _ | refine Kept.drew ?_ | refine Kept.alloc ?_ _)); first | exact Kept.refl _ | assumption)))
    (first
      | ((refine step_append_zero (by rfl) (.tmp 5) (.tmp 6) 106 (by rfl) _ (by rfl) (by rfl) i0 _ Try.underlying106 hi hz0 hz1' hz2 rfl (by decide) (enc := encBd) (ok := okBd) (m := env) (base := w.heap.size) oneBd ?_ (HWP.out _ (by assumption)) ?_; (repeat (with_reducible first | exact HFR.out | refine Fr.drew ?_ | refine Fr.alloc ?_)); intro v1 w1 ho1 hb1; have hst1 : Stay w w1 := Stay.of ((Stay.below (by assumption)).trans (hb1.mono (HWP.out _ (by assumption)))); have hk1 : Kept w w1 := Kept.here hst1))
      | ((refine step_append_app (by rfl) (.tmp 7) (.tmp 12) 106 (by rfl) (by rfl) (by rfl) i0 _ Try.underlying106 hi hz0 hz1' hz2 rfl (by decide) (enc := encBd) (ok := okBd) (l := env) (m := [⟨s, v⟩]) (base := w.heap.size) oneBd ?_ ?_ (HWP.out _ (by assumption)) mb1.out mb2.out ?_; (first | exact frB_new _ HOK.out rfl | (refine Fr.via hb1 ?_; refine Fr.drew ?_; refine frB_new _ HOK.out ?_; (first | rfl | simp only [World.size_alloc])) | (refine Fr.via hb1 ?_; refine Fr.drew ?_; refine Fr.alloc ?_; refine frB_new _ HOK.out ?_; rfl)); (change AppL encBd okBd 2 123 _ w.heap.size env v1); (repeat (with_reducible first | exact ho1 | refine AppL.drew ?_ | refine AppL.alloc ?_)); intro v2 w2 ho2 hb2; have hst2 : Stay w w2 := Stay.of ((Stay.below (by assumption)).trans (hb2.mono (HWP.out _ (by assumption)))); have hk2 : Kept w w2 := Kept.here hst2)))
  all_goals go_wp2_with fail
  all_goals go_ret
  all_goals exact ⟨⟨_, rfl, FrX.app (by assumption) (by simp; omega) HX.out⟩, Stay.below (by assumption)⟩
set_option maxHeartbeats 16000000 in
set_option maxRecDepth 100000 in
theorem nb_one (F : Nat) (l : List St) (h : ∀ k s a b body els, St.mk k s a b body els ∈ l → PNb F body ∧ PNb F els) : PNb F l := by
  intro base w d X e m ms env lab S v ve hat hS r hfx hel hlab hwl res hres
  obtain ⟨A, cap, rfl, hl, hcm, hby⟩ := r.form
  obtain ⟨Ae0, ce0, rfl, -, -⟩ := hfx.form
  unfold maxLen at hcm
  have H := Lib.hid h
  have R := Lib.hid r
  have HS := Lib.hid hS
  have hbs : base ≤ w.heap.size := by have := hat.1.bd d hat.1.X0; omega
  have HG0 := Lib.hid (fun k hk => (hat.1.bd k hk).1 : ∀ k, X k → base ≤ k)
  have hbel : Below w.heap.size w (w.alloc (.cells #[.slice Ae0 env.length ce0] 106)) := (Below.refl _ _).alloc (Nat.le_refl _) _
  have HAT := Lib.hid (show NnAt base (w.alloc (.cells #[.slice Ae0 env.length ce0] 106)) d X F e m (ms ++ flatL []) from by rw [flatL_nil, List.append_nil]; exact ⟨hat.1.below hbel, hat.2⟩)
  have HG := Lib.hid (Blk.made w [.slice Ae0 env.length ce0] 106 hbs)
  have HFX := Lib.hid (show FrX (Both X (Is w.heap.size)) (w.alloc (.cells #[.slice Ae0 env.length ce0] 106)) env (.slice Ae0 env.length ce0) from by
    obtain ⟨T, h1, h2, h3⟩ := hfx
    exact ⟨T, h1.trans (Sub.upto hbel.size), fun k hk e => e.elim (h2 k hk) (fun e => by have e : k = w.heap.size := e; have := h1 k hk; simp only [Upto] at this; omega), h3.keep Flat.keeps (Sub.refl _) (same_of_below hbel h1)⟩)
  have HNG := Lib.hid (show ¬ X w.heap.size from fun e => by have := hat.lt _ e; omega)
  have HB0 := Lib.hid (But.of_below (T := X) hbel)
  have HSB := Lib.hid (Sub.plus X w.heap.size ((w.alloc (.cells #[.slice Ae0 env.length ce0] 106))).heap.size)
  have HRES0 := Lib.hid hres
  clear h r hS hat hfx hres hbel
  obtain ⟨g, hg⟩ : ∃ g, g = w.heap.size := ⟨_, rfl⟩
  go_enter Try.func28, Try.ntmps28
  go_upto_region 1 with (fail)
  rw [← hg]
  rw [← hg] at HG HFX HNG
  generalize (w.alloc (.cells #[.slice Ae0 env.length ce0] 106)) = W0 at *
  have hwg : w.heap.size ≤ g := Nat.le_of_eq hg.symm
  clear hg
  go_wp2_with fail
  go_loopw [2, 21] (fun lb t wr => ∃ q : Nat, q ≤ l.length ∧ t = .int .i64 q ∧ ∃ (env' : List Bd) (m' : US) (x : List Mk) (X' : Blocks) (ve' : Value), lb = vI ((lab + labelsL (l.take q) : Nat) : Int) ∧ Hid (NnAt base wr d X' F e m' (ms ++ flatL x)) ∧ Hid (FrX (Both X' (Is g)) wr env' ve') ∧ env'.length ≤ m'.st ∧ Hid (Blk base wr g [ve']) ∧ Hid (¬ X' g) ∧ Hid (But X w wr) ∧ Hid (Sub X' (Plus X w.heap.size wr.heap.size)) ∧ Hid ((blN F (l.drop q) env' (lab + labelsL (l.take q)) m').map (fun y => (x ++ y.1, y.2)) = res)) (fun _ t _ => l.length - (intOf t).toNat)
  case atStart => exact ⟨0, by omega, rfl, env, m, [], X, _, by rw [List.take_zero, labelsL]; rfl, HAT, HFX, hel, HG, HNG, HB0, HSB, Lib.hid (by
    rw [List.take_zero, labelsL, List.drop_zero, ← HRES0.out]
    show Option.map (fun y => ([] ++ y.1, y.2)) (blN F l env lab m) = _
    cases blN F l env lab m <;> rfl)⟩
  case round =>
    clear HAT HFX HRES0 hel HG HNG HB0 HSB
    obtain ⟨q, hq, rfl, env', m', x, X', ve', rfl, HK, HF, hel, HG, HNG, HB, HSb, HRES⟩ := hrel
    obtain ⟨Ae, ce, rfl, hce1, hce2⟩ := HF.out.form
    by_cases hlt : q < l.length
    · obtain ⟨M0, hM0⟩ : ∃ M0, M0 = ms ++ flatL x := ⟨_, rfl⟩
      rw [← hM0] at HK
      have HM0 := Lib.hid hM0
      clear hM0
      have hsame : Same S w wr := HB.out.same (HS.out.trans (Sub.upto hbs)) (fun k hk ht => by have := HG0.out k ht; have := HS.out k hk; unfold Upto at this; omega)
      obtain ⟨b0, off, cs, rfl, hb, hcl, hcell, hrd⟩ := (R.out.keep RdSt.keeps (Sub.refl _) hsame).at_ hlt
      have hb : b0 < base := HS.out _ hb
      have hbr : base ≤ wr.heap.size := Nat.le_trans hbs HB.out.size
      have hb0 : b0 < wr.heap.size := by omega
      have hmem := List.getElem_mem hlt
      have htk : l.take (q + 1) = l.take q ++ [l[q]] := by rw [List.take_succ_eq_append_getElem hlt]
      have hwq := wts_take l hlt
      have hltake : labelsL (l.take (q + 1)) ≤ labelsL l := labelsL_take l (q + 1)
      have hdr := HRES.out
      rw [blN_drop F l hlt] at hdr
      obtain ⟨st, hst⟩ : ∃ st, l[q] = st := ⟨_, rfl⟩
      rw [hst] at hrd hmem htk hwq hdr
      obtain ⟨k, s, a, b, body, els⟩ := st
      have hrs := hrd
      obtain ⟨k1, n1, s1, A1, m1, p1, k2, n2, s2, A2, m2, p2, A3, p3, A4, p4, rfl, hk, hs, ra, rb, rv, rv'⟩ := hrd.cells
      have e0 : wr.cell? ⟨b0, off + q * 12, none⟩ = some _ := hcell 0 _ rfl
      have e1 : wr.cell? ⟨b0, off + q * 12 + 1, none⟩ = some _ := hcell 1 _ rfl; have e2 : wr.cell? ⟨b0, off + q * 12 + 2, none⟩ = some _ := hcell 2 _ rfl; have e3 : wr.cell? ⟨b0, off + q * 12 + 3, none⟩ = some _ := hcell 3 _ rfl; have e4 : wr.cell? ⟨b0, off + q * 12 + 4, none⟩ = some _ := hcell 4 _ rfl; have e5 : wr.cell? ⟨b0, off + q * 12 + 5, none⟩ = some _ := hcell 5 _ rfl; have e6 : wr.cell? ⟨b0, off + q * 12 + 6, none⟩ = some _ := hcell 6 _ rfl; have e7 : wr.cell? ⟨b0, off + q * 12 + 7, none⟩ = some _ := hcell 7 _ rfl; have e8 : wr.cell? ⟨b0, off + q * 12 + 8, none⟩ = some _ := hcell 8 _ rfl; have e9 : wr.cell? ⟨b0, off + q * 12 + 9, none⟩ = some _ := hcell 9 _ rfl; have e10 : wr.cell? ⟨b0, off + q * 12 + 10, none⟩ = some _ := hcell 10 _ rfl; have e11 : wr.cell? ⟨b0, off + q * 12 + 11, none⟩ = some _ := hcell 11 _ rfl
      have hlabn : labelsL (l.take (q + 1)) = labelsL (l.take q) + labelsS (.mk k s a b body els) := by rw [htk, labelsL_snoc]
      have hlab1 : labelsL [St.mk k s a b body els] = labelsS (.mk k s a b body els) := by simp [labelsL]
      have hlb1 : lab + labelsL (l.take q) + labelsL [St.mk k s a b body els] ≤ 1048576 := by omega
      have HLN := Lib.hid (show lab + labelsL (l.take (q + 1)) = lab + labelsL (l.take q) + labelsL [St.mk k s a b body els] by omega)
      have HDR := Lib.hid (show ((stN F (.mk k s a b body els) env' (lab + labelsL (l.take q)) m').bind fun z => (blN F (l.drop (q + 1)) z.2.2 (lab + labelsL (l.take q) + labelsL [St.mk k s a b body els]) z.2.1).map fun y => (z.1 ++ y.1, y.2)).map (fun y => (x ++ y.1, y.2)) = res by rw [hlab1]; exact hdr)
      have hlbb : labelsS (.mk k s a b body els) = labelsL [St.mk k s a b body els] := hlab1.symm
      have hw1 : St.wts [St.mk k s a b body els] ≤ 1048576 := by
        have : St.wts [St.mk k s a b body els] = St.wt (.mk k s a b body els) := by simp [St.wts]
        omega
      rw [St.wt] at hwq
      have HOKs : s.size ≤ 140737488355328 := hs
      have HIB := Lib.hid (H.out _ _ _ _ _ _ hmem)
      have rva : RdE wr S a (exV k1 n1 s1 (.slice A1 m1 p1)) := RdEx.toE ra
      have rvb : RdE wr S b (exV k2 n2 s2 (.slice A2 m2 p2)) := RdEx.toE rb
      have hx3 : St.wts body ≤ 1048576 := by omega
      have hx4 : St.wts els ≤ 1048576 := by omega
      clear hwq hst htk hlabn hlab1 hdr hltake
      have hbel : Below wr.heap.size wr (wr.alloc (.cells #[.int .i64 k, .string s, .int .i64 k1, .int .i64 n1, .string s1, .slice A1 m1 p1, .int .i64 k2, .int .i64 n2, .string s2, .slice A2 m2 p2, .slice A3 body.length p3, .slice A4 els.length p4] 112)) := (Below.refl _ _).alloc (Nat.le_refl _) _
      have hsu : Sub S (Upto wr.heap.size) := HS.out.trans (Sub.upto hbr)
      have hgr : g < wr.heap.size := HG.out.lt
      have hrw : SNn base d F S wr.heap.size g [.int .i64 k, .string s, .int .i64 k1, .int .i64 n1, .string s1, .slice A1 m1 p1, .int .i64 k2, .int .i64 n2, .string s2, .slice A2 m2 p2, .slice A3 body.length p3, .slice A4 els.length p4] a b (exV k1 n1 s1 (.slice A1 m1 p1)) (exV k2 n2 s2 (.slice A2 m2 p2)) body els (.slice A3 body.length p3) (.slice A4 els.length p4) w X (wr.alloc (.cells #[.int .i64 k, .string s, .int .i64 k1, .int .i64 n1, .string s1, .slice A1 m1 p1, .int .i64 k2, .int .i64 n2, .string s2, .slice A2 m2 p2, .slice A3 body.length p3, .slice A4 els.length p4] 112)) X' e m' M0 env' (.slice Ae env'.length ce) :=
        ⟨⟨HK.out.1.below hbel, HK.out.2⟩, HF.out.below hbel, ⟨Blk.made wr _ 112 hbr, rva.go hbel hsu, rvb.go hbel hsu, rv.go RdSt.keeps hbel hsu (Sub.refl _), rv'.go RdSt.keeps hbel hsu (Sub.refl _)⟩, fun e => by have := HK.out.lt _ e; omega, HG.out.below hbel, HNG.out, by omega, hwg, HB.out.trans (But.of_below hbel), fun k hk => (HSb.out k hk).imp id (fun e => ⟨e.1, Nat.lt_of_lt_of_le e.2 hbel.size⟩), HS.out⟩
      have HRS := Lib.hid hrs
      go_upto_region 4 with (fail)
      clear e0 e1 e2 e3 e4 e5 e6 e7 e8 e9 e10 e11 hcell hrd hcl ra rb rv rv' rva rvb hbel hsu hmem hrs
      have hwz0 : wr.heap.size < ((wr.alloc (.cells #[.int .i64 k, .string s, .int .i64 k1, .int .i64 n1, .string s1, .slice A1 m1 p1, .int .i64 k2, .int .i64 n2, .string s2, .slice A2 m2 p2, .slice A3 body.length p3, .slice A4 els.length p4] 112))).heap.size := by simp
      have HSM := Lib.hid hsame
      have hb00 : b0 < base := hb
      generalize (wr.alloc (.cells #[.int .i64 k, .string s, .int .i64 k1, .int .i64 n1, .string s1, .slice A1 m1 p1, .int .i64 k2, .int .i64 n2, .string s2, .slice A2 m2 p2, .slice A3 body.length p3, .slice A4 els.length p4] 112)) = W at *
      obtain ⟨y, hy⟩ : ∃ y, y = wr.heap.size := ⟨_, rfl⟩
      rw [← hy] at hrw hwz0
      rw [← hy]
      have HRw := Lib.hid hrw
      have c0 := hrw.rn.bd.cell 0 _ rfl; have c1 := hrw.rn.bd.cell 1 _ rfl; have c2 := hrw.rn.bd.cell 2 _ rfl; have c3 := hrw.rn.bd.cell 3 _ rfl; have c4 := hrw.rn.bd.cell 4 _ rfl; have c5 := hrw.rn.bd.cell 5 _ rfl; have c6 := hrw.rn.bd.cell 6 _ rfl; have c7 := hrw.rn.bd.cell 7 _ rfl; have c8 := hrw.rn.bd.cell 8 _ rfl; have c9 := hrw.rn.bd.cell 9 _ rfl; have c10 := hrw.rn.bd.cell 10 _ rfl; have c11 := hrw.rn.bd.cell 11 _ rfl
      generalize hN0 : lab + labelsL (l.take q) = N0 at *
      obtain ⟨N1, hN1⟩ : ∃ N1, N1 = labelsL [St.mk k s a b body els] := ⟨_, rfl⟩
      rw [← hN1] at HLN HDR hlb1 hlbb
      have HN1 := Lib.hid hN1
      have HSN0 := Lib.hid (SNn.same hrw HG0.out hbs HSM.out)
      have hld0 := hrw.rn.bd.lt
      have hwl1 := i64_2 (show N0 + N1 ≤ 1048577 by omega)
      have hwl2 := w64_2 (show N0 + N1 ≤ 1048577 by omega)
      clear hrw HB HSb HF HK hy hb hb0 hN0 HRES hN1 hsame HG HNG hgr
      go_wp2_with fail
      refine (llabelsOf_one HRS.out HSN0.out HRw.out.sW rfl hw1 rfl).mono ?_
      rintro e wl ⟨rfl, hbl⟩
      rw [← HN1.out]
      have HR0 := Lib.hid (HRw.out.below hbl)
      clear c0 c1 c2 c3 c4 c5 c6 c7 c8 c9 c10 c11 hbl hld0 HRw hwz0 HSN0
      have c0 := HR0.out.rn.bd.cell 0 _ rfl; have c1 := HR0.out.rn.bd.cell 1 _ rfl; have c2 := HR0.out.rn.bd.cell 2 _ rfl; have c3 := HR0.out.rn.bd.cell 3 _ rfl; have c4 := HR0.out.rn.bd.cell 4 _ rfl; have c5 := HR0.out.rn.bd.cell 5 _ rfl; have c6 := HR0.out.rn.bd.cell 6 _ rfl; have c7 := HR0.out.rn.bd.cell 7 _ rfl; have c8 := HR0.out.rn.bd.cell 8 _ rfl; have c9 := HR0.out.rn.bd.cell 9 _ rfl; have c10 := HR0.out.rn.bd.cell 10 _ rfl; have c11 := HR0.out.rn.bd.cell 11 _ rfl
      have HSW0 := Lib.hid (SNn.same HR0.out HG0.out hbs (Same.refl _ _))
      by_cases hk0 : k < 1 ∨ 7 < k
      · skip
        have HRN := Lib.hid (show (blN F (l.drop (q + 1)) env' (N0 + N1) m').map (fun y => (x ++ y.1, y.2)) = res from by
          have := HDR.out
          rw [stN_other hk0] at this
          simpa [Option.map_map, Function.comp_def] using this)
        clear HDR
        go_wp2_with fail
        all_goals go_roundw
        all_goals first
          | exact ⟨q + 1, by omega, by go_num, env', m', x, X', _, by rw [HLN.out, Int.natCast_add], Lib.hid (by rw [← HM0.out]; exact HR0.out.at_), Lib.hid HR0.out.env, hel, Lib.hid HR0.out.gb, Lib.hid HR0.out.ng, Lib.hid HR0.out.but, Lib.hid HR0.out.sub, Lib.hid (by rw [HLN.out]; exact HRN.out)⟩
          | (simp [intOf]; omega)
      have hk1 : 1 ≤ k := by omega
      have hk7 : k ≤ 7 := by omega
      have c8 : wl.cell? ⟨d, 8, none⟩ = some (vI (m'.st : Int)) := HnAt.midAt HR0.out.at_.1 (n := 0) rfl
      have f8 := HnAt.fr HR0.out.at_.1 8
      have hst1 : (m'.st : Int) ≤ 2000 := by have := HR0.out.at_.2.2.1; have := HR0.out.at_.2.2.2; omega
      have hF1 : (F : Int) ≤ 2000 := by have := HR0.out.at_.2.2.2; omega
      by_cases hf : m'.st < F
      case neg =>
        skip
        have hrn : res = none := by
          have := HDR.out
          rw [stN_none hk0 hf] at this
          exact this.symm
        subst hrn
        have hEE : m'.st = F := by have := HR0.out.at_.2.2.1; omega
        rw [hEE] at c8
        have HEN := Lib.hid (And.intro HR0.out.at_.end_ (And.intro HR0.out.sub HR0.out.but))
        clear hEE
        go_wp2
        go_ret
        exact ⟨rfl, ⟨X', HEN.out.1, HEN.out.2.1⟩, HEN.out.2.2⟩
      have hne : decide ((m'.st : Int) = (F : Int)) = false := by simp; omega
      have HQ := Lib.hid (NnAt.step HR0.out.at_ hf)
      have HR1 := Lib.hid (HR0.out.step HQ.out.2 HQ.out.1 (Sub.plus _ _ _))
      clear HQ
      go_upto_region 10 with (fail)
      generalize wl.setCell ⟨d, 8, none⟩ (vI ((m'.st : Int) + 1)) = W2 at *
      clear c8 f8 hne hwl1 hwl2
      clear c0 c1 c2 c3 c4 c5 c6 c7 c8 c9 c10 c11
      have c0 := HR1.out.rn.bd.cell 0 _ rfl; have c1 := HR1.out.rn.bd.cell 1 _ rfl; have c2 := HR1.out.rn.bd.cell 2 _ rfl; have c3 := HR1.out.rn.bd.cell 3 _ rfl; have c4 := HR1.out.rn.bd.cell 4 _ rfl; have c5 := HR1.out.rn.bd.cell 5 _ rfl; have c6 := HR1.out.rn.bd.cell 6 _ rfl; have c7 := HR1.out.rn.bd.cell 7 _ rfl; have c8 := HR1.out.rn.bd.cell 8 _ rfl; have c9 := HR1.out.rn.bd.cell 9 _ rfl; have c10 := HR1.out.rn.bd.cell 10 _ rfl; have c11 := HR1.out.rn.bd.cell 11 _ rfl
      have cg := HR1.out.gb.cell 0 _ rfl
      have hgl2 : g < W2.heap.size := HR1.out.gb.lt
      have hyl2 : y < W2.heap.size := HR1.out.rn.bd.lt
      obtain ⟨va, hva⟩ : ∃ va, va = a.worth env' := ⟨_, rfl⟩
      obtain ⟨vb, hvb⟩ : ∃ vb, vb = b.worth env' := ⟨_, rfl⟩
      have HVA := Lib.hid hva
      have HVB := Lib.hid hvb
      clear hva hvb
      go_cut [14, 15] (fun x14 x15 wx => x14 = vI va ∧ x15 = vI vb ∧ Hid (inI va) ∧ Hid (inI vb) ∧ Hid (Below W2.heap.size W2 wx))
      case first =>
        skip
        have HST := Lib.hid (fun w' h => HR1.out.below (Stay.below h) : ∀ w', Stay W2 w' → SNn base d F S y g [.int .i64 k, .string s, .int .i64 k1, .int .i64 n1, .string s1, .slice A1 m1 p1, .int .i64 k2, .int .i64 n2, .string s2, .slice A2 m2 p2, .slice A3 body.length p3, .slice A4 els.length p4] a b (exV k1 n1 s1 (.slice A1 m1 p1)) (exV k2 n2 s2 (.slice A2 m2 p2)) body els (.slice A3 body.length p3) (.slice A4 els.length p4) w X w' X' e m'.step M0 env' (.slice Ae env'.length ce))
        go_region_held3 (fun w' => Stay W2 w') (first | assumption | exact Stay.mk (Kept.start _) | ((refine Stay.mk ?_; (repeat (with_reducible first | refine Kept.set ?_ (by omega) _ | refine Kept.drew ?_ | refine Kept.alloc ?_ _)); first | exact Kept.refl _ | assumption)))
          (first
            | ((go_at_call_of 49 (Value.agg #[.int .i64 k1, .int .i64 n1, .string s1, .slice A1 m1 p1]); refine (eev_fx env' a _ S (Both X' (Is g)) _ _ (HST.out _ (by first | assumption | exact Stay.mk (Kept.start _))).sW (HST.out _ (by first | assumption | exact Stay.mk (Kept.start _))).rn.ra (HST.out _ (by first | assumption | exact Stay.mk (Kept.start _))).env).mono ?_; rintro e wv ⟨rfl, hina, hb1⟩; have hst1 : Stay W2 wv := Stay.step hb1 (by first | assumption | exact Stay.mk (Kept.start _)); have hk1 : Kept W2 wv := Kept.here hst1; clear hb1))
            | ((go_at_call_of 49 (Value.agg #[.int .i64 k2, .int .i64 n2, .string s2, .slice A2 m2 p2]); refine (eev_fx env' b _ S (Both X' (Is g)) _ _ (HST.out _ (by first | assumption | exact Stay.mk (Kept.start _))).sW (HST.out _ (by first | assumption | exact Stay.mk (Kept.start _))).rn.rb (HST.out _ (by first | assumption | exact Stay.mk (Kept.start _))).env).mono ?_; rintro e wu ⟨rfl, hinb, hb1⟩; have hst2 : Stay W2 wu := Stay.step hb1 (by first | assumption | exact Stay.mk (Kept.start _)); have hk2 : Kept W2 wu := Kept.here hst2; clear hb1)))
        all_goals (try go_wp2_with fail)
        all_goals go_meet
        all_goals rw [HVA.out, HVB.out]
        all_goals exact ⟨rfl, rfl, Lib.hid hina, Lib.hid hinb, Lib.hid (Stay.below (by assumption))⟩
      case rest =>
      obtain ⟨rfl, rfl, HIA, HIB2, HB⟩ := hcut
      obtain ⟨W3, hW3⟩ : ∃ W3, W3 = wc := ⟨_, rfl⟩
      subst hW3
      have HR2 := Lib.hid (HR1.out.below HB.out)
      clear c0 c1 c2 c3 c4 c5 c6 c7 c8 c9 c10 c11 cg hgl2 hyl2 HB
      have c0 := HR2.out.rn.bd.cell 0 _ rfl; have c1 := HR2.out.rn.bd.cell 1 _ rfl; have c2 := HR2.out.rn.bd.cell 2 _ rfl; have c3 := HR2.out.rn.bd.cell 3 _ rfl; have c4 := HR2.out.rn.bd.cell 4 _ rfl; have c5 := HR2.out.rn.bd.cell 5 _ rfl; have c6 := HR2.out.rn.bd.cell 6 _ rfl; have c7 := HR2.out.rn.bd.cell 7 _ rfl; have c8 := HR2.out.rn.bd.cell 8 _ rfl; have c9 := HR2.out.rn.bd.cell 9 _ rfl; have c10 := HR2.out.rn.bd.cell 10 _ rfl; have c11 := HR2.out.rn.bd.cell 11 _ rfl
      have cg := HR2.out.gb.cell 0 _ rfl
      have hgl2 : g < W3.heap.size := HR2.out.gb.lt
      have hyl2 : y < W3.heap.size := HR2.out.rn.bd.lt
      have hel3 : env'.length < m'.step.st := Nat.lt_of_le_of_lt hel (Nat.lt_succ_self _)
      have hmk := HR0.out.at_.2.1
      have hx2000 : env'.length ≤ 2000 := by have := HR2.out.at_.2.2.1; have := HR2.out.at_.2.2.2; omega
      have eg : ∀ args w, (callFunc 50 args).run Try.prog w = .ok (.enter 50 args) w := fun args w => by kernel_rfl
      go_upto_block 2 with (fail)
      go_cut [17] (SwN base d F S y g [.int .i64 k, .string s, .int .i64 k1, .int .i64 n1, .string s1, .slice A1 m1 p1, .int .i64 k2, .int .i64 n2, .string s2, .slice A2 m2 p2, .slice A3 body.length p3, .slice A4 els.length p4] a b (exV k1 n1 s1 (.slice A1 m1 p1)) (exV k2 n2 s2 (.slice A2 m2 p2)) body els (.slice A3 body.length p3) (.slice A4 els.length p4) w X e M0 (stN F (.mk k s a b body els) env' N0 m'))
      case rest =>
        skip
        rcases hcut with ⟨mm, xx, X1, env1, ve1, hsr, rfl, HR5, hel5⟩ | ⟨hsr, rfl, ⟨X1, HE5, HX5⟩, HB5⟩
        · have HRN := Lib.hid (show (blN F (l.drop (q + 1)) env1 (N0 + N1) mm).map (fun y => ((x ++ xx) ++ y.1, y.2)) = res from by
            have := HDR.out
            rw [hsr] at this
            simpa [Option.map_map, Function.comp_def, List.append_assoc] using this)
          have HRR := Lib.hid HR5
          clear HDR hsr HR5 c0 c1 c2 c3 c4 c5 c6 c7 c8 c9 c10 c11 cg eg
          go_wp2_with fail
          go_roundw
          case rel => exact ⟨q + 1, by omega, by go_num, env1, mm, x ++ xx, X1, _, by rw [HLN.out, Int.natCast_add], Lib.hid (by rw [flatL_app, ← List.append_assoc, ← HM0.out]; exact HRR.out.at_), Lib.hid HRR.out.env, hel5, Lib.hid HRR.out.gb, Lib.hid HRR.out.ng, Lib.hid HRR.out.but, Lib.hid HRR.out.sub, Lib.hid (by rw [HLN.out]; exact HRN.out)⟩
          case measure => simp [intOf]; omega
        · have hrn : res = none := by
            have := HDR.out
            rw [hsr] at this
            exact this.symm
          subst hrn
          have HEE := Lib.hid (And.intro HE5 (And.intro HX5 HB5))
          clear HDR hsr HE5 HX5 HB5 c0 c1 c2 c3 c4 c5 c6 c7 c8 c9 c10 c11 cg eg
          go_wp2
          go_ret
          exact ⟨rfl, ⟨X1, HEE.out.1, HEE.out.2.1⟩, HEE.out.2.2⟩
      case first =>
        by_cases h1 : k = 1
        · subst h1
          as_aux_lemma =>
            skip
            have HSN := Lib.hid (show (stN F (.mk 1 s a b body els) env' N0 m') = some ([], m'.step, env' ++ [⟨s, va⟩]) from by rw [stN_let hf, ← HVA.out])
            go_wp2_with fail
            refine (with_anyN env' hx2000 s HOKs va HIA.out W3 (Both X' (Is g)) _ g y [] (fun k hk => hk.elim (HR2.out.at_.lt k) (fun e => by have e : k = g := e; omega)) HR2.out.env cg c1).mono ?_
            rintro e w5 ⟨⟨u, rfl, hfx⟩, hb⟩
            obtain ⟨Ax, cx, rfl, _⟩ := hfx.form
            simp only [List.length_append, List.length_singleton] at hfx
            have HR3 := Lib.hid (HR2.out.below hb)
            have HFX := Lib.hid hfx
            clear hfx hb c0 c1 c2 c3 c4 c5 c6 c7 c8 c9 c10 c11 cg
            have cg := HR3.out.gb.cell 0 _ rfl
            have fg := HR3.out.gb.fr 0
            go_wp2_with fail
            go_meet
            exact SwN.on HSN.out (by rw [flatL_nil, List.append_nil]) (HR3.out.put HFX.out) (by simp only [List.length_append, List.length_singleton]; omega)
        by_cases h2 : k = 2
        · subst h2
          as_aux_lemma =>
            skip
            have HSN := Lib.hid (show (stN F (.mk 2 s a b body els) env' N0 m') = some ([.acc (accU va false N0)], m'.step, env' ++ [⟨s, m'.get va⟩]) from by rw [stN_load hf, ← HVA.out])
            obtain ⟨i0, hi, hz0, hz1', hz2⟩ := info_parts infoNM
            obtain ⟨o, hc, ho, hX, hrow⟩ := HR2.out.at_.1.row
            have hc : W3.cell? ⟨d, 9, none⟩ = some o := hc
            obtain ⟨A9, cp9, rfl⟩ := ho.form
            have HRW := Lib.hid hrow
            have hok : okNM ⟨1, ⟨(cellN va : Int), false, (N0 : Int)⟩⟩ := ⟨(show inI 1 from ⟨by decide, by decide⟩), by unfold inI; have := cellN_lt va; dsimp only; omega, by unfold inI; dsimp only; omega⟩
            obtain ⟨cN, hcN⟩ : ∃ cN, cN = cellN va := ⟨_, rfl⟩
            have HCN := Lib.hid hcN
            have hcN8 : cN < 8 := by rw [hcN]; exact cellN_lt va
            rw [← hcN] at hok
            clear hcN
            have hdl : d < W3.heap.size := HR2.out.at_.lt d HR2.out.at_.1.X0
            have htl : (M0).length ≤ 6000 := by have := HR2.out.at_.2.1; have := HR2.out.at_.2.2.1; have := HR2.out.at_.2.2.2; omega
            have ma1 := Lib.hid (show (M0).length + [(⟨1, ⟨(cN : Int), false, (N0 : Int)⟩⟩ : NM)].length ≤ maxLen by unfold maxLen; simp only [List.length_singleton]; omega)
            have ma2 := Lib.hid (show ((M0).length + [(⟨1, ⟨(cN : Int), false, (N0 : Int)⟩⟩ : NM)].length) * 32 ≤ 140737488355328 by simp only [List.length_singleton]; omega)
            have hbWW : base ≤ W3.heap.size := Nat.le_trans HR2.out.rn.bd.ge (Nat.le_of_lt HR2.out.rn.bd.lt)
            have HBA := Lib.hid (show Below W3.heap.size W3 (W3.alloc (.cells #[.int .i64 1, .int .i64 (cN : Int), .bool false, .int .i64 (N0 : Int)] 126)).drew from ((Below.refl _ _).alloc (Nat.le_refl _) _).drew)
            have H2d := Lib.hid (ho.keep Flat.keeps HBA.out)
            have HBB := Lib.hid (show base ≤ ((W3.alloc (.cells #[.int .i64 1, .int .i64 (cN : Int), .bool false, .int .i64 (N0 : Int)] 126)).drew).heap.size from Nat.le_trans hbWW HBA.out.size)
            have HRD := Lib.hid (show RdL (Flat encNM okNM) 4 32 (W3.alloc (.cells #[.int .i64 1, .int .i64 (cN : Int), .bool false, .int .i64 (N0 : Int)] 126)).drew (fun _ => True) [(⟨1, ⟨(cN : Int), false, (N0 : Int)⟩⟩ : NM)] (.slice (some ⟨W3.heap.size, 0, none⟩) 1 1) from rd_one (enc := encNM) (x := (⟨1, ⟨(cN : Int), false, (N0 : Int)⟩⟩ : NM)) rfl (cells_newAt W3 [.int .i64 1, .int .i64 (cN : Int), .bool false, .int .i64 (N0 : Int)] 126 rfl) hok trivial (by decide))
            have hf9 := HnAt.fr HR2.out.at_.1 9
            have HS2 := Lib.hid (show ∀ w5, ((W3.alloc (.cells #[.int .i64 1, .int .i64 (cN : Int), .bool false, .int .i64 (N0 : Int)] 126)).drew).grownBy w5 (Value.ownBlock (.slice A9 (M0).length cp9)) → Same2 d y W3 w5 from fun w5 hg => (Same2.ofBut (But.of_below (T := Nowhere) HBA.out) hdl HR2.out.rn.bd.lt (fun h => h) (fun h => h)).trans (Same2.ofBut (But.of_grown hg) (Nat.lt_of_lt_of_le hdl HBA.out.size) (Nat.lt_of_lt_of_le HR2.out.rn.bd.lt HBA.out.size) (fun e => (hX d e).2 rfl) (fun e => HR2.out.nd (hX y e).1)))
            have hylS : y < W3.heap.size := HR2.out.rn.bd.lt
            clear hrow ho hX
            go_upto_region 17 with (fail)
            go_cut [] (fun wx => ∃ X', Hid (SNn base d F S y g [.int .i64 2, .string s, .int .i64 k1, .int .i64 n1, .string s1, .slice A1 m1 p1, .int .i64 k2, .int .i64 n2, .string s2, .slice A2 m2 p2, .slice A3 body.length p3, .slice A4 els.length p4] a b (exV k1 n1 s1 (.slice A1 m1 p1)) (exV k2 n2 s2 (.slice A2 m2 p2)) body els (.slice A3 body.length p3) (.slice A4 els.length p4) w X wx X' e m'.step (M0 ++ [⟨1, ⟨(cN : Int), false, (N0 : Int)⟩⟩]) env' (.slice Ae env'.length ce)))
            case first =>
              skip
              refine wp_region_pre 12 (S := (fun w' => Same2 d y W3 w')) (by kernel_rfl) (by kernel_rfl) (Same2.drew (Same2.refl _ _ _)) (fun hHeld => ?_)
              simp only [List.take_succ_cons, List.take_zero]
              refine wpAnyH_take_at (i := 0) (v := ?_) (some 70) rfl rfl (by kernel_rfl) (by kernel_rfl) (by kernel_rfl) (fun _ _ _ h => h) (Or.inl ⟨by rfl, ?_⟩) (by assumption) ?_
              rotate_left
              · (intro w hSw; (try dsimp only at hSw); go_simp; (try with_reducible rfl))
              (try simp only [Act.put, List.setIfInBounds_toArray, List.set_cons_zero, List.set_cons_succ])
              refine wpAnyH_take_at (i := 1) (v := ?_) (some 71) rfl rfl (by kernel_rfl) (by kernel_rfl) (by kernel_rfl) (fun _ _ _ h => h) (Or.inl ⟨by rfl, ?_⟩) (by assumption) ?_
              rotate_left
              · (intro w hSw; (try dsimp only at hSw); go_simp; (try with_reducible rfl))
              (try simp only [Act.put, List.setIfInBounds_toArray, List.set_cons_zero, List.set_cons_succ])
              refine wpAnyH_take_at (i := 2) (v := ?_) (some 72) rfl rfl (by kernel_rfl) (by kernel_rfl) (by kernel_rfl) (fun _ _ _ h => h) (Or.inl ⟨by rfl, ?_⟩) (by assumption) ?_
              rotate_left
              · (intro w hSw; (try dsimp only at hSw); go_simp; (try with_reducible rfl))
              (try simp only [Act.put, List.setIfInBounds_toArray, List.set_cons_zero, List.set_cons_succ])
              refine wpAnyH_take_at (i := 3) (v := ?_) (some 73) rfl rfl (by kernel_rfl) (by kernel_rfl) (by kernel_rfl) (fun _ _ _ h => h) (Or.inl ⟨by rfl, ?_⟩) (by assumption) ?_
              rotate_left
              · (intro w hSw; (try dsimp only at hSw); go_simp; (try with_reducible rfl))
              (try simp only [Act.put, List.setIfInBounds_toArray, List.set_cons_zero, List.set_cons_succ])
              refine wpAnyH_take_at (i := 4) (v := ?_) (some 74) rfl rfl (by kernel_rfl) (by kernel_rfl) (by kernel_rfl) (fun _ _ _ h => h) (Or.inl ⟨by rfl, ?_⟩) (by assumption) ?_
              rotate_left
              · (intro w hSw; (try dsimp only at hSw); go_simp; (try with_reducible rfl))
              (try simp only [Act.put, List.setIfInBounds_toArray, List.set_cons_zero, List.set_cons_succ])
              refine wpAnyH_take_at (i := 5) (v := ?_) (some 75) rfl rfl (by kernel_rfl) (by kernel_rfl) (by kernel_rfl) (fun _ _ _ h => h) (Or.inl ⟨by rfl, ?_⟩) (by assumption) ?_
              rotate_left
              · (intro w hSw; (try dsimp only at hSw); go_simp; (try with_reducible rfl))
              (try simp only [Act.put, List.setIfInBounds_toArray, List.set_cons_zero, List.set_cons_succ])
              refine wpAnyH_take_at (i := 7) (v := ?_) (some 77) rfl rfl (by kernel_rfl) (by kernel_rfl) (by kernel_rfl) (fun _ _ _ h => h) (Or.inl ⟨by rfl, ?_⟩) (by assumption) ?_
              rotate_left
              · (intro w hSw; (try dsimp only at hSw); go_simp; (try with_reducible rfl))
              (try simp only [Act.put, List.setIfInBounds_toArray, List.set_cons_zero, List.set_cons_succ])
              refine wpAnyH_ready (rs := [6]) (by kernel_rfl) (by simp) ?_
              refine AllReadyH.cons rfl (fun K hK => ?_) AllReadyH.nil
              go_simp
              refine (mcell_any va _).mono ?_
              rintro e wc ⟨rfl, rfl⟩
              rw [← HCN.out]
              refine hK.out _ _ ?_ (fun hHeld => ?_)
              · exact hHeld
              clear hK K
              (try simp only [Act.put, List.setIfInBounds_toArray, List.set_cons_zero, List.set_cons_succ])
              refine wpAnyH_take_at (i := 8) (v := ?_) (some 78) rfl rfl (by kernel_rfl) (by kernel_rfl) (by kernel_rfl) (fun _ _ _ h => h) (Or.inl ⟨by rfl, ?_⟩) (by assumption) ?_
              rotate_left
              · (intro w hSw; (try dsimp only at hSw); go_simp; (try with_reducible rfl))
              (try simp only [Act.put, List.setIfInBounds_toArray, List.set_cons_zero, List.set_cons_succ])
              refine wpAnyH_take_at (i := 9) (v := ?_) (some 79) rfl rfl (by kernel_rfl) (by kernel_rfl) (by kernel_rfl) (fun _ _ _ h => h) (Or.inl ⟨by rfl, ?_⟩) (by assumption) ?_
              rotate_left
              · (intro w hSw; (try dsimp only at hSw); go_simp; (try with_reducible rfl))
              (try simp only [Act.put, List.setIfInBounds_toArray, List.set_cons_zero, List.set_cons_succ])
              refine wpAnyH_ready (rs := [10]) (by kernel_rfl) (by simp) ?_
              refine AllReadyH.cons rfl (fun K hK => ?_) AllReadyH.nil
              go_simp
              skip
              refine hK.out _ _ ?_ (fun hHeld => ?_)
              · exact Same2.ofBut (But.of_below (T := Nowhere) HBA.out) hdl hylS (fun h => h) (fun h => h)
              clear hK K
              (try simp only [Act.put, List.setIfInBounds_toArray, List.set_cons_zero, List.set_cons_succ])
              refine wpAnyH_ready (rs := [11]) (by kernel_rfl) (by simp) ?_
              refine AllReadyH.cons rfl (fun K hK => ?_) AllReadyH.nil
              refine step_append_list (by rfl) (.tmp 74) (.tmp 80) 84 (by rfl) (by rfl) (by rfl) i0 _ Try.underlying84 hi hz0 hz1' hz2 rfl (by decide) Flat.keeps (l := M0) (m := [⟨1, ⟨(cN : Int), false, (N0 : Int)⟩⟩]) (base := base) (S := Nowhere) (Tx := Nowhere) (U := fun _ => True) (v := .slice A9 (M0).length cp9) (RdL.bare HRD.out _) H2d.out (Sub.nowhere _) (Sub.nowhere _) not_nowhere oneNM ma1.out ma2.out HBB.out ?_
              intro v5 w5 ho5 hg5 hd5
              obtain ⟨f1, f2, X', q1, q2, q3⟩ := HRW.out _ w5 _ _ HBA.out hg5 ho5 (hd5.imp id (fun e => ⟨_, e, Nat.le_refl _⟩))
              have f1 : w5.frozen? ⟨d, 9, none⟩ = false := f1
              obtain ⟨u5, f2⟩ := Option.isSome_iff_exists.1 f2
              have f2 : w5.cell? ⟨d, 9, none⟩ = some u5 := f2
              obtain ⟨A5', c5', rfl⟩ := ho5.form
              simp only [List.length_append, List.length_singleton] at q1 q2 q3
              refine hK.out _ _ ?_ (fun hHeld => ?_)
              · exact HS2.out _ hg5
              clear hK K
              (try simp only [Act.put, List.setIfInBounds_toArray])
              refine wpAnyH_done (by kernel_rfl) ?_ _
              unfold QPre
              simp only [List.drop_succ_cons, List.drop_zero]
              (try go_wp2_with fail)
              go_meet
              refine ⟨X', Lib.hid (HR2.out.step q3 ⟨q1, ?_, HR2.out.at_.2.2⟩ q2)⟩
              (try clear hw24)
              have := HR2.out.at_.2.1
              rw [List.length_append, List.length_singleton]
              simp only [US.step]
              omega
            case rest =>
            obtain ⟨X1, HR3⟩ := hcut
            obtain ⟨W4, hW4⟩ : ∃ W4, W4 = wc := ⟨_, rfl⟩
            subst hW4
            (try clear hw24)
            clear c0 c1 c2 c3 c4 c5 c6 c7 c8 c9 c10 c11 cg hgl2 hyl2 hc hf9 HRW H2d HRD HBA HBB ma1 ma2 hdl HS2 hylS
            have HMM := Lib.hid (show (M0 ++ [⟨1, ⟨(cN : Int), false, (N0 : Int)⟩⟩]) = M0 ++ flatL [.acc (accU va false N0)] from by rw [flatL_cons, flatL_nil, flat_acc, List.append_nil, accU, HCN.out])
            have cg := HR3.out.gb.cell 0 _ rfl
            have fg := HR3.out.gb.fr 0
            have c1 := HR3.out.rn.bd.cell 1 _ rfl
            have hdg : d ≠ g := fun e => HR3.out.ng (by rw [← e]; exact HR3.out.at_.1.X0)
            have hdc := HnAt.cell HR3.out.at_.1 hcN8
            obtain ⟨v, hv⟩ : ∃ v, v = m'.get va := ⟨_, rfl⟩
            have hin2 : inI v := by rw [hv]; exact HnAt.in_ HR2.out.at_.1 _
            rw [show m'.step.h.getD cN 0 = v from by rw [hv, HCN.out]; rfl] at hdc
            rw [← hv] at HSN
            have HV := Lib.hid hin2
            have hcI : (cN : Int) < 8 := by omega
            clear hv hin2
            have HWT := Lib.hid (show ∀ wq, W4 = wq ∨ W4.drew = wq → ∀ u wz, FrX (Both X1 (Is g)) wz (env' ++ [⟨s, v⟩]) u → Below wq.heap.size wq wz → SNn base d F S y g [.int .i64 2, .string s, .int .i64 k1, .int .i64 n1, .string s1, .slice A1 m1 p1, .int .i64 k2, .int .i64 n2, .string s2, .slice A2 m2 p2, .slice A3 body.length p3, .slice A4 els.length p4] a b (exV k1 n1 s1 (.slice A1 m1 p1)) (exV k2 n2 s2 (.slice A2 m2 p2)) body els (.slice A3 body.length p3) (.slice A4 els.length p4) w X wz X1 e m'.step (M0 ++ [⟨1, ⟨(cN : Int), false, (N0 : Int)⟩⟩]) env' (.slice Ae env'.length ce) ∧ Same2 d d W4 wz ∧ wz.cell? ⟨g, 0, none⟩ = some (.slice Ae env'.length ce) ∧ wz.frozen? ⟨g, 0, none⟩ = false from fun wq hq u wz hf hb => by
              have hb2 : Below W4.heap.size W4 wz := by
                rcases hq with rfl | rfl
                · exact hb
                · exact (Below.refl _ _).drew.trans hb
              have h5 := HR3.out.below hb2
              have hl := HR3.out.at_.lt d HR3.out.at_.1.X0
              exact ⟨h5, fun p hp => hb2.cell (by rw [hp.elim id id]; exact hl), h5.gb.cell 0 _ rfl, h5.gb.fr 0⟩)
            have HWC := Lib.hid (show ∀ wq, W4 = wq ∨ W4.drew = wq → Calls Try.prog 50 #[vI v, .pointer (some ⟨g, 0, none⟩), .pointer (some ⟨y, 0, none⟩)] wq fun e w' => (∃ x, e = .returned x ∧ FrX (Both X1 (Is g)) w' (env' ++ [⟨s, v⟩]) x) ∧ Below wq.heap.size wq w' from fun wq hq => by
              rcases hq with rfl | rfl
              · exact with_anyN env' hx2000 s HOKs v HV.out _ (Both X1 (Is g)) _ g y [] (fun k hk => hk.elim (HR3.out.at_.lt k) (fun e => by have e : k = g := e; have := HR3.out.gb.lt; omega)) HR3.out.env cg c1
              · exact with_anyN env' hx2000 s HOKs v HV.out _ (Both X1 (Is g)) _ g y [] (fun k hk => hk.elim (HR3.out.at_.lt k) (fun e => by have e : k = g := e; have := HR3.out.gb.lt; show k < W4.heap.size; omega)) HR3.out.env.drew cg c1)
            go_upto_region 18 with (fail)
            go_region_held3 (fun w' => Same2 d d W4 w') (first | assumption | exact Same2.refl _ _ _ | exact Same2.drew (Same2.refl _ _ _) | (refine Same2.set hdg hdg ?_ _; assumption))
              (first
                | ((go_at_call 51; refine (mcell_any va _).mono ?_; rintro e wc ⟨rfl, rfl⟩; rw [← HCN.out]))
                | ((go_at_call 50; refine (HWC.out _ (by first | exact .inl rfl | exact .inr rfl)).mono ?_; rintro e wz ⟨⟨u, rfl, hfx⟩, hb⟩; obtain ⟨Ax, cx, rfl, _⟩ := hfx.form; simp only [List.length_append, List.length_singleton] at hfx; obtain ⟨q1, q2, q3, q4⟩ := HWT.out _ (by first | exact .inl rfl | exact .inr rfl) _ wz hfx hb)))
            all_goals (try go_wp2_with fail)
            all_goals go_meet
            all_goals exact SwN.on HSN.out HMM.out (SNn.put q1 hfx) (by simp only [List.length_append, List.length_singleton]; exact hel3)
        by_cases h3 : k = 3
        · subst h3
          as_aux_lemma =>
            skip
            have HSN := Lib.hid (show (stN F (.mk 3 s a b body els) env' N0 m') = some ([.acc (accU va true N0)], m'.step.put va vb, env') from by rw [stN_store hf, ← HVA.out, ← HVB.out])
            obtain ⟨i0, hi, hz0, hz1', hz2⟩ := info_parts infoNM
            obtain ⟨o, hc, ho, hX, hrow⟩ := HR2.out.at_.1.row
            have hc : W3.cell? ⟨d, 9, none⟩ = some o := hc
            obtain ⟨A9, cp9, rfl⟩ := ho.form
            have HRW := Lib.hid hrow
            have hok : okNM ⟨1, ⟨(cellN va : Int), true, (N0 : Int)⟩⟩ := ⟨(show inI 1 from ⟨by decide, by decide⟩), by unfold inI; have := cellN_lt va; dsimp only; omega, by unfold inI; dsimp only; omega⟩
            obtain ⟨cN, hcN⟩ : ∃ cN, cN = cellN va := ⟨_, rfl⟩
            have HCN := Lib.hid hcN
            have hcN8 : cN < 8 := by rw [hcN]; exact cellN_lt va
            rw [← hcN] at hok
            clear hcN
            have hdl : d < W3.heap.size := HR2.out.at_.lt d HR2.out.at_.1.X0
            have htl : (M0).length ≤ 6000 := by have := HR2.out.at_.2.1; have := HR2.out.at_.2.2.1; have := HR2.out.at_.2.2.2; omega
            have ma1 := Lib.hid (show (M0).length + [(⟨1, ⟨(cN : Int), true, (N0 : Int)⟩⟩ : NM)].length ≤ maxLen by unfold maxLen; simp only [List.length_singleton]; omega)
            have ma2 := Lib.hid (show ((M0).length + [(⟨1, ⟨(cN : Int), true, (N0 : Int)⟩⟩ : NM)].length) * 32 ≤ 140737488355328 by simp only [List.length_singleton]; omega)
            have hbWW : base ≤ W3.heap.size := Nat.le_trans HR2.out.rn.bd.ge (Nat.le_of_lt HR2.out.rn.bd.lt)
            have HBA := Lib.hid (show Below W3.heap.size W3 (W3.alloc (.cells #[.int .i64 1, .int .i64 (cN : Int), .bool true, .int .i64 (N0 : Int)] 126)).drew from ((Below.refl _ _).alloc (Nat.le_refl _) _).drew)
            have H2d := Lib.hid (ho.keep Flat.keeps HBA.out)
            have HBB := Lib.hid (show base ≤ ((W3.alloc (.cells #[.int .i64 1, .int .i64 (cN : Int), .bool true, .int .i64 (N0 : Int)] 126)).drew).heap.size from Nat.le_trans hbWW HBA.out.size)
            have HRD := Lib.hid (show RdL (Flat encNM okNM) 4 32 (W3.alloc (.cells #[.int .i64 1, .int .i64 (cN : Int), .bool true, .int .i64 (N0 : Int)] 126)).drew (fun _ => True) [(⟨1, ⟨(cN : Int), true, (N0 : Int)⟩⟩ : NM)] (.slice (some ⟨W3.heap.size, 0, none⟩) 1 1) from rd_one (enc := encNM) (x := (⟨1, ⟨(cN : Int), true, (N0 : Int)⟩⟩ : NM)) rfl (cells_newAt W3 [.int .i64 1, .int .i64 (cN : Int), .bool true, .int .i64 (N0 : Int)] 126 rfl) hok trivial (by decide))
            have hf9 := HnAt.fr HR2.out.at_.1 9
            have HS2 := Lib.hid (show ∀ w5, ((W3.alloc (.cells #[.int .i64 1, .int .i64 (cN : Int), .bool true, .int .i64 (N0 : Int)] 126)).drew).grownBy w5 (Value.ownBlock (.slice A9 (M0).length cp9)) → Same2 d y W3 w5 from fun w5 hg => (Same2.ofBut (But.of_below (T := Nowhere) HBA.out) hdl HR2.out.rn.bd.lt (fun h => h) (fun h => h)).trans (Same2.ofBut (But.of_grown hg) (Nat.lt_of_lt_of_le hdl HBA.out.size) (Nat.lt_of_lt_of_le HR2.out.rn.bd.lt HBA.out.size) (fun e => (hX d e).2 rfl) (fun e => HR2.out.nd (hX y e).1)))
            have hylS : y < W3.heap.size := HR2.out.rn.bd.lt
            clear hrow ho hX
            go_upto_region 20 with (fail)
            go_cut [] (fun wx => ∃ X', Hid (SNn base d F S y g [.int .i64 3, .string s, .int .i64 k1, .int .i64 n1, .string s1, .slice A1 m1 p1, .int .i64 k2, .int .i64 n2, .string s2, .slice A2 m2 p2, .slice A3 body.length p3, .slice A4 els.length p4] a b (exV k1 n1 s1 (.slice A1 m1 p1)) (exV k2 n2 s2 (.slice A2 m2 p2)) body els (.slice A3 body.length p3) (.slice A4 els.length p4) w X wx X' e m'.step (M0 ++ [⟨1, ⟨(cN : Int), true, (N0 : Int)⟩⟩]) env' (.slice Ae env'.length ce)))
            case first =>
              skip
              refine wp_region_pre 12 (S := (fun w' => Same2 d y W3 w')) (by kernel_rfl) (by kernel_rfl) (Same2.drew (Same2.refl _ _ _)) (fun hHeld => ?_)
              simp only [List.take_succ_cons, List.take_zero]
              refine wpAnyH_take_at (i := 0) (v := ?_) (some 95) rfl rfl (by kernel_rfl) (by kernel_rfl) (by kernel_rfl) (fun _ _ _ h => h) (Or.inl ⟨by rfl, ?_⟩) (by assumption) ?_
              rotate_left
              · (intro w hSw; (try dsimp only at hSw); go_simp; (try with_reducible rfl))
              (try simp only [Act.put, List.setIfInBounds_toArray, List.set_cons_zero, List.set_cons_succ])
              refine wpAnyH_take_at (i := 1) (v := ?_) (some 96) rfl rfl (by kernel_rfl) (by kernel_rfl) (by kernel_rfl) (fun _ _ _ h => h) (Or.inl ⟨by rfl, ?_⟩) (by assumption) ?_
              rotate_left
              · (intro w hSw; (try dsimp only at hSw); go_simp; (try with_reducible rfl))
              (try simp only [Act.put, List.setIfInBounds_toArray, List.set_cons_zero, List.set_cons_succ])
              refine wpAnyH_take_at (i := 2) (v := ?_) (some 97) rfl rfl (by kernel_rfl) (by kernel_rfl) (by kernel_rfl) (fun _ _ _ h => h) (Or.inl ⟨by rfl, ?_⟩) (by assumption) ?_
              rotate_left
              · (intro w hSw; (try dsimp only at hSw); go_simp; (try with_reducible rfl))
              (try simp only [Act.put, List.setIfInBounds_toArray, List.set_cons_zero, List.set_cons_succ])
              refine wpAnyH_take_at (i := 3) (v := ?_) (some 98) rfl rfl (by kernel_rfl) (by kernel_rfl) (by kernel_rfl) (fun _ _ _ h => h) (Or.inl ⟨by rfl, ?_⟩) (by assumption) ?_
              rotate_left
              · (intro w hSw; (try dsimp only at hSw); go_simp; (try with_reducible rfl))
              (try simp only [Act.put, List.setIfInBounds_toArray, List.set_cons_zero, List.set_cons_succ])
              refine wpAnyH_take_at (i := 4) (v := ?_) (some 99) rfl rfl (by kernel_rfl) (by kernel_rfl) (by kernel_rfl) (fun _ _ _ h => h) (Or.inl ⟨by rfl, ?_⟩) (by assumption) ?_
              rotate_left
              · (intro w hSw; (try dsimp only at hSw); go_simp; (try with_reducible rfl))
              (try simp only [Act.put, List.setIfInBounds_toArray, List.set_cons_zero, List.set_cons_succ])
              refine wpAnyH_take_at (i := 5) (v := ?_) (some 100) rfl rfl (by kernel_rfl) (by kernel_rfl) (by kernel_rfl) (fun _ _ _ h => h) (Or.inl ⟨by rfl, ?_⟩) (by assumption) ?_
              rotate_left
              · (intro w hSw; (try dsimp only at hSw); go_simp; (try with_reducible rfl))
              (try simp only [Act.put, List.setIfInBounds_toArray, List.set_cons_zero, List.set_cons_succ])
              refine wpAnyH_take_at (i := 7) (v := ?_) (some 102) rfl rfl (by kernel_rfl) (by kernel_rfl) (by kernel_rfl) (fun _ _ _ h => h) (Or.inl ⟨by rfl, ?_⟩) (by assumption) ?_
              rotate_left
              · (intro w hSw; (try dsimp only at hSw); go_simp; (try with_reducible rfl))
              (try simp only [Act.put, List.setIfInBounds_toArray, List.set_cons_zero, List.set_cons_succ])
              refine wpAnyH_ready (rs := [6]) (by kernel_rfl) (by simp) ?_
              refine AllReadyH.cons rfl (fun K hK => ?_) AllReadyH.nil
              go_simp
              refine (mcell_any va _).mono ?_
              rintro e wc ⟨rfl, rfl⟩
              rw [← HCN.out]
              refine hK.out _ _ ?_ (fun hHeld => ?_)
              · exact hHeld
              clear hK K
              (try simp only [Act.put, List.setIfInBounds_toArray, List.set_cons_zero, List.set_cons_succ])
              refine wpAnyH_take_at (i := 8) (v := ?_) (some 103) rfl rfl (by kernel_rfl) (by kernel_rfl) (by kernel_rfl) (fun _ _ _ h => h) (Or.inl ⟨by rfl, ?_⟩) (by assumption) ?_
              rotate_left
              · (intro w hSw; (try dsimp only at hSw); go_simp; (try with_reducible rfl))
              (try simp only [Act.put, List.setIfInBounds_toArray, List.set_cons_zero, List.set_cons_succ])
              refine wpAnyH_take_at (i := 9) (v := ?_) (some 104) rfl rfl (by kernel_rfl) (by kernel_rfl) (by kernel_rfl) (fun _ _ _ h => h) (Or.inl ⟨by rfl, ?_⟩) (by assumption) ?_
              rotate_left
              · (intro w hSw; (try dsimp only at hSw); go_simp; (try with_reducible rfl))
              (try simp only [Act.put, List.setIfInBounds_toArray, List.set_cons_zero, List.set_cons_succ])
              refine wpAnyH_ready (rs := [10]) (by kernel_rfl) (by simp) ?_
              refine AllReadyH.cons rfl (fun K hK => ?_) AllReadyH.nil
              go_simp
              skip
              refine hK.out _ _ ?_ (fun hHeld => ?_)
              · exact Same2.ofBut (But.of_below (T := Nowhere) HBA.out) hdl hylS (fun h => h) (fun h => h)
              clear hK K
              (try simp only [Act.put, List.setIfInBounds_toArray, List.set_cons_zero, List.set_cons_succ])
              refine wpAnyH_ready (rs := [11]) (by kernel_rfl) (by simp) ?_
              refine AllReadyH.cons rfl (fun K hK => ?_) AllReadyH.nil
              refine step_append_list (by rfl) (.tmp 99) (.tmp 105) 84 (by rfl) (by rfl) (by rfl) i0 _ Try.underlying84 hi hz0 hz1' hz2 rfl (by decide) Flat.keeps (l := M0) (m := [⟨1, ⟨(cN : Int), true, (N0 : Int)⟩⟩]) (base := base) (S := Nowhere) (Tx := Nowhere) (U := fun _ => True) (v := .slice A9 (M0).length cp9) (RdL.bare HRD.out _) H2d.out (Sub.nowhere _) (Sub.nowhere _) not_nowhere oneNM ma1.out ma2.out HBB.out ?_
              intro v5 w5 ho5 hg5 hd5
              obtain ⟨f1, f2, X', q1, q2, q3⟩ := HRW.out _ w5 _ _ HBA.out hg5 ho5 (hd5.imp id (fun e => ⟨_, e, Nat.le_refl _⟩))
              have f1 : w5.frozen? ⟨d, 9, none⟩ = false := f1
              obtain ⟨u5, f2⟩ := Option.isSome_iff_exists.1 f2
              have f2 : w5.cell? ⟨d, 9, none⟩ = some u5 := f2
              obtain ⟨A5', c5', rfl⟩ := ho5.form
              simp only [List.length_append, List.length_singleton] at q1 q2 q3
              refine hK.out _ _ ?_ (fun hHeld => ?_)
              · exact HS2.out _ hg5
              clear hK K
              (try simp only [Act.put, List.setIfInBounds_toArray])
              refine wpAnyH_done (by kernel_rfl) ?_ _
              unfold QPre
              simp only [List.drop_succ_cons, List.drop_zero]
              (try go_wp2_with fail)
              go_meet
              refine ⟨X', Lib.hid (HR2.out.step q3 ⟨q1, ?_, HR2.out.at_.2.2⟩ q2)⟩
              (try clear hw24)
              have := HR2.out.at_.2.1
              rw [List.length_append, List.length_singleton]
              simp only [US.step]
              omega
            case rest =>
            obtain ⟨X1, HR3⟩ := hcut
            obtain ⟨W4, hW4⟩ : ∃ W4, W4 = wc := ⟨_, rfl⟩
            subst hW4
            (try clear hw24)
            clear c0 c1 c2 c3 c4 c5 c6 c7 c8 c9 c10 c11 cg hgl2 hyl2 hc hf9 HRW H2d HRD HBA HBB ma1 ma2 hdl HS2 hylS
            have HMM := Lib.hid (show (M0 ++ [⟨1, ⟨(cN : Int), true, (N0 : Int)⟩⟩]) = M0 ++ flatL [.acc (accU va true N0)] from by rw [flatL_cons, flatL_nil, flat_acc, List.append_nil, accU, HCN.out])
            have hdc := HnAt.cell HR3.out.at_.1 hcN8
            have hdf := HnAt.fr HR3.out.at_.1 cN
            have hyd : y ≠ d := fun e => HR3.out.nd (by rw [e]; exact HR3.out.at_.1.X0)
            have hgd : g ≠ d := fun e => HR3.out.ng (by rw [e]; exact HR3.out.at_.1.X0)
            have hcI : (cN : Int) < 8 := by omega
            have HRP := Lib.hid (show SNn base d F S y g [.int .i64 3, .string s, .int .i64 k1, .int .i64 n1, .string s1, .slice A1 m1 p1, .int .i64 k2, .int .i64 n2, .string s2, .slice A2 m2 p2, .slice A3 body.length p3, .slice A4 els.length p4] a b (exV k1 n1 s1 (.slice A1 m1 p1)) (exV k2 n2 s2 (.slice A2 m2 p2)) body els (.slice A3 body.length p3) (.slice A4 els.length p4) w X (W4.setCell ⟨d, cN, none⟩ (vI vb)) X1 e (m'.step.put va vb) (M0 ++ [⟨1, ⟨(cN : Int), true, (N0 : Int)⟩⟩]) env' (.slice Ae env'.length ce) from by
              obtain ⟨p1, p2⟩ := HnAt.setHeap HR3.out.at_.1 hcN8 vb HIB2.out
              refine HR3.out.step p2 ⟨?_, HR3.out.at_.2⟩ (Sub.plus _ _ _)
              simp only [US.put]
              rw [← HCN.out]
              exact p1)
            go_upto_region 21 with (fail)
            go_region_held3 (fun w' => Same2 y g W4 w') (first | assumption | exact Same2.refl _ _ _ | exact Same2.drew (Same2.refl _ _ _) | (refine Same2.set hyd hgd ?_ _; assumption))
              ((go_at_call 51; refine (mcell_any va _).mono ?_; rintro e wc ⟨rfl, rfl⟩; rw [← HCN.out]))
            all_goals (try go_wp2_with fail)
            all_goals go_meet
            all_goals exact SwN.on HSN.out HMM.out (HRP.out.below ((Below.refl _ _).drew)) (Nat.le_of_lt hel3)
        by_cases h4 : k = 4
        · subst h4
          as_aux_lemma =>
            skip
            obtain ⟨i0, hi, hz0, hz1', hz2⟩ := info_parts infoNM
            obtain ⟨o, hc, ho, hX, hrow⟩ := HR2.out.at_.1.row
            have hc : W3.cell? ⟨d, 9, none⟩ = some o := hc
            obtain ⟨A9, cp9, rfl⟩ := ho.form
            have HRW := Lib.hid hrow
            have hw24 : IntKind.i64.wrap 2 = 2 := by decide
            have hdl : d < W3.heap.size := HR2.out.at_.lt d HR2.out.at_.1.X0
            have htl : (M0).length ≤ 6000 := by have := HR2.out.at_.2.1; have := HR2.out.at_.2.2.1; have := HR2.out.at_.2.2.2; omega
            have ma1 := Lib.hid (show (M0).length + [(⟨2, acc0⟩ : NM)].length ≤ maxLen by unfold maxLen; simp only [List.length_singleton]; omega)
            have ma2 := Lib.hid (show ((M0).length + [(⟨2, acc0⟩ : NM)].length) * 32 ≤ 140737488355328 by simp only [List.length_singleton]; omega)
            have hbWW : base ≤ W3.heap.size := Nat.le_trans HR2.out.rn.bd.ge (Nat.le_of_lt HR2.out.rn.bd.lt)
            have HBA := Lib.hid (show Below W3.heap.size W3 (W3.alloc (.cells #[.int .i64 2, .int .i64 0, .bool false, .int .i64 0] 126)).drew from ((Below.refl _ _).alloc (Nat.le_refl _) _).drew)
            have H2d := Lib.hid (ho.keep Flat.keeps HBA.out)
            have HBB := Lib.hid (show base ≤ ((W3.alloc (.cells #[.int .i64 2, .int .i64 0, .bool false, .int .i64 0] 126)).drew).heap.size from Nat.le_trans hbWW HBA.out.size)
            have HRD := Lib.hid (show RdL (Flat encNM okNM) 4 32 (W3.alloc (.cells #[.int .i64 2, .int .i64 0, .bool false, .int .i64 0] 126)).drew (fun _ => True) [(⟨2, acc0⟩ : NM)] (.slice (some ⟨W3.heap.size, 0, none⟩) 1 1) from rd_one (enc := encNM) (x := (⟨2, acc0⟩ : NM)) rfl (cells_newAt W3 [.int .i64 2, .int .i64 0, .bool false, .int .i64 0] 126 rfl) ⟨⟨by decide, by decide⟩, ⟨by decide, by decide⟩, ⟨by decide, by decide⟩⟩ trivial (by decide))
            have hf9 := HnAt.fr HR2.out.at_.1 9
            have HS2 := Lib.hid (show ∀ w5, ((W3.alloc (.cells #[.int .i64 2, .int .i64 0, .bool false, .int .i64 0] 126)).drew).grownBy w5 (Value.ownBlock (.slice A9 (M0).length cp9)) → Same2 d y W3 w5 from fun w5 hg => (Same2.ofBut (But.of_below (T := Nowhere) HBA.out) hdl HR2.out.rn.bd.lt (fun h => h) (fun h => h)).trans (Same2.ofBut (But.of_grown hg) (Nat.lt_of_lt_of_le hdl HBA.out.size) (Nat.lt_of_lt_of_le HR2.out.rn.bd.lt HBA.out.size) (fun e => (hX d e).2 rfl) (fun e => HR2.out.nd (hX y e).1)))
            have hylS : y < W3.heap.size := HR2.out.rn.bd.lt
            clear hrow ho hX
            go_upto_region 24 with (fail)
            go_cut [] (fun wx => ∃ X', Hid (SNn base d F S y g [.int .i64 4, .string s, .int .i64 k1, .int .i64 n1, .string s1, .slice A1 m1 p1, .int .i64 k2, .int .i64 n2, .string s2, .slice A2 m2 p2, .slice A3 body.length p3, .slice A4 els.length p4] a b (exV k1 n1 s1 (.slice A1 m1 p1)) (exV k2 n2 s2 (.slice A2 m2 p2)) body els (.slice A3 body.length p3) (.slice A4 els.length p4) w X wx X' (e + 1) m'.step (M0 ++ [⟨2, acc0⟩]) env' (.slice Ae env'.length ce)))
            case first =>
              skip
              refine wp_region_pre 11 (S := (fun w' => Same2 d y W3 w')) (by kernel_rfl) (by kernel_rfl) (Same2.drew (Same2.refl _ _ _)) (fun hHeld => ?_)
              simp only [List.take_succ_cons, List.take_zero]
              refine wpAnyH_take_at (i := 0) (v := ?_) (some 119) rfl rfl (by kernel_rfl) (by kernel_rfl) (by kernel_rfl) (fun _ _ _ h => h) (Or.inl ⟨by rfl, ?_⟩) (by assumption) ?_
              rotate_left
              · (intro w hSw; (try dsimp only at hSw); go_simp; (try with_reducible rfl))
              (try simp only [Act.put, List.setIfInBounds_toArray, List.set_cons_zero, List.set_cons_succ])
              refine wpAnyH_take_at (i := 1) (v := ?_) (some 120) rfl rfl (by kernel_rfl) (by kernel_rfl) (by kernel_rfl) (fun _ _ _ h => h) (Or.inl ⟨by rfl, ?_⟩) (by assumption) ?_
              rotate_left
              · (intro w hSw; (try dsimp only at hSw); go_simp; (try with_reducible rfl))
              (try simp only [Act.put, List.setIfInBounds_toArray, List.set_cons_zero, List.set_cons_succ])
              refine wpAnyH_take_at (i := 2) (v := ?_) (some 121) rfl rfl (by kernel_rfl) (by kernel_rfl) (by kernel_rfl) (fun _ _ _ h => h) (Or.inl ⟨by rfl, ?_⟩) (by assumption) ?_
              rotate_left
              · (intro w hSw; (try dsimp only at hSw); go_simp; (try with_reducible rfl))
              (try simp only [Act.put, List.setIfInBounds_toArray, List.set_cons_zero, List.set_cons_succ])
              refine wpAnyH_take_at (i := 3) (v := ?_) (some 122) rfl rfl (by kernel_rfl) (by kernel_rfl) (by kernel_rfl) (fun _ _ _ h => h) (Or.inl ⟨by rfl, ?_⟩) (by assumption) ?_
              rotate_left
              · (intro w hSw; (try dsimp only at hSw); go_simp; (try with_reducible rfl))
              (try simp only [Act.put, List.setIfInBounds_toArray, List.set_cons_zero, List.set_cons_succ])
              refine wpAnyH_take_at (i := 4) (v := ?_) (some 123) rfl rfl (by kernel_rfl) (by kernel_rfl) (by kernel_rfl) (fun _ _ _ h => h) (Or.inl ⟨by rfl, ?_⟩) (by assumption) ?_
              rotate_left
              · (intro w hSw; (try dsimp only at hSw); go_simp; (try with_reducible rfl))
              (try simp only [Act.put, List.setIfInBounds_toArray, List.set_cons_zero, List.set_cons_succ])
              refine wpAnyH_take_at (i := 5) (v := ?_) (some 124) rfl rfl (by kernel_rfl) (by kernel_rfl) (by kernel_rfl) (fun _ _ _ h => h) (Or.inl ⟨by rfl, ?_⟩) (by assumption) ?_
              rotate_left
              · (intro w hSw; (try dsimp only at hSw); go_simp; (try with_reducible rfl))
              (try simp only [Act.put, List.setIfInBounds_toArray, List.set_cons_zero, List.set_cons_succ])
              refine wpAnyH_take_at (i := 6) (v := ?_) (some 125) rfl rfl (by kernel_rfl) (by kernel_rfl) (by kernel_rfl) (fun _ _ _ h => h) (Or.inl ⟨by rfl, ?_⟩) (by assumption) ?_
              rotate_left
              · (intro w hSw; (try dsimp only at hSw); go_simp; (try with_reducible rfl))
              (try simp only [Act.put, List.setIfInBounds_toArray, List.set_cons_zero, List.set_cons_succ])
              refine wpAnyH_take_at (i := 7) (v := ?_) (some 126) rfl rfl (by kernel_rfl) (by kernel_rfl) (by kernel_rfl) (fun _ _ _ h => h) (Or.inl ⟨by rfl, ?_⟩) (by assumption) ?_
              rotate_left
              · (intro w hSw; (try dsimp only at hSw); go_simp; (try with_reducible rfl))
              (try simp only [Act.put, List.setIfInBounds_toArray, List.set_cons_zero, List.set_cons_succ])
              refine wpAnyH_take_at (i := 8) (v := ?_) (some 127) rfl rfl (by kernel_rfl) (by kernel_rfl) (by kernel_rfl) (fun _ _ _ h => h) (Or.inl ⟨by rfl, ?_⟩) (by assumption) ?_
              rotate_left
              · (intro w hSw; (try dsimp only at hSw); go_simp; (try with_reducible rfl))
              (try simp only [Act.put, List.setIfInBounds_toArray, List.set_cons_zero, List.set_cons_succ])
              refine wpAnyH_ready (rs := [9]) (by kernel_rfl) (by simp) ?_
              refine AllReadyH.cons rfl (fun K hK => ?_) AllReadyH.nil
              go_simp
              skip
              refine hK.out _ _ ?_ (fun hHeld => ?_)
              · exact Same2.ofBut (But.of_below (T := Nowhere) HBA.out) hdl hylS (fun h => h) (fun h => h)
              clear hK K
              (try simp only [Act.put, List.setIfInBounds_toArray, List.set_cons_zero, List.set_cons_succ])
              refine wpAnyH_ready (rs := [10]) (by kernel_rfl) (by simp) ?_
              refine AllReadyH.cons rfl (fun K hK => ?_) AllReadyH.nil
              refine step_append_list (by rfl) (.tmp 123) (.tmp 128) 84 (by rfl) (by rfl) (by rfl) i0 _ Try.underlying84 hi hz0 hz1' hz2 rfl (by decide) Flat.keeps (l := M0) (m := [⟨2, acc0⟩]) (base := base) (S := Nowhere) (Tx := Nowhere) (U := fun _ => True) (v := .slice A9 (M0).length cp9) (RdL.bare HRD.out _) H2d.out (Sub.nowhere _) (Sub.nowhere _) not_nowhere oneNM ma1.out ma2.out HBB.out ?_
              intro v5 w5 ho5 hg5 hd5
              obtain ⟨f1, f2, X', q1, q2, q3⟩ := HRW.out _ w5 _ _ HBA.out hg5 ho5 (hd5.imp id (fun e => ⟨_, e, Nat.le_refl _⟩))
              have f1 : w5.frozen? ⟨d, 9, none⟩ = false := f1
              obtain ⟨u5, f2⟩ := Option.isSome_iff_exists.1 f2
              have f2 : w5.cell? ⟨d, 9, none⟩ = some u5 := f2
              obtain ⟨A5', c5', rfl⟩ := ho5.form
              simp only [List.length_append, List.length_singleton] at q1 q2 q3
              refine hK.out _ _ ?_ (fun hHeld => ?_)
              · exact HS2.out _ hg5
              clear hK K
              (try simp only [Act.put, List.setIfInBounds_toArray])
              refine wpAnyH_done (by kernel_rfl) ?_ _
              unfold QPre
              simp only [List.drop_succ_cons, List.drop_zero]
              (try go_wp2_with fail)
              go_meet
              refine ⟨X', Lib.hid (HR2.out.step q3 ⟨q1, ?_, HR2.out.at_.2.2⟩ q2)⟩
              (try clear hw24)
              have := HR2.out.at_.2.1
              rw [List.length_append, List.length_singleton]
              simp only [US.step]
              omega
            case rest =>
            obtain ⟨X1, HR3⟩ := hcut
            obtain ⟨W4, hW4⟩ : ∃ W4, W4 = wc := ⟨_, rfl⟩
            subst hW4
            (try clear hw24)
            clear c0 c1 c2 c3 c4 c5 c6 c7 c8 c9 c10 c11 cg hgl2 hyl2 hc hf9 HRW H2d HRD HBA HBB ma1 ma2 hdl HS2 hylS
            have hlb5 : labelsL body = N1 := by rw [← hlbb, labels_one (by omega)]
            have c0 := HR3.out.rn.bd.cell 0 _ rfl; have c1 := HR3.out.rn.bd.cell 1 _ rfl; have c2 := HR3.out.rn.bd.cell 2 _ rfl; have c3 := HR3.out.rn.bd.cell 3 _ rfl; have c4 := HR3.out.rn.bd.cell 4 _ rfl; have c5 := HR3.out.rn.bd.cell 5 _ rfl; have c6 := HR3.out.rn.bd.cell 6 _ rfl; have c7 := HR3.out.rn.bd.cell 7 _ rfl; have c8 := HR3.out.rn.bd.cell 8 _ rfl; have c9 := HR3.out.rn.bd.cell 9 _ rfl; have c10 := HR3.out.rn.bd.cell 10 _ rfl; have c11 := HR3.out.rn.bd.cell 11 _ rfl
            have cg := HR3.out.gb.cell 0 _ rfl
            have HC := Lib.hid (HIB.out.1 base W4 d X1 (e + 1) m'.step (M0 ++ [⟨2, acc0⟩]) env' N0 S _ _ HR3.out.at_ HS.out HR3.out.rn.r1 (HR3.out.env.fewer (fun k hk => .inl hk)) (Nat.le_of_lt hel3) (by omega) hx3 _ rfl)
            have hF2 := HR3.out.at_.2.2.2
            go_wp2_with fail
            refine HC.out.mono ?_
            rintro en w' ho
            cases hrb : blN F body env' N0 m'.step with
            | none =>
              rw [hrb] at ho
              obtain ⟨rfl, ⟨X4, ⟨s', h', M4, hh, hlen, -⟩, hs4⟩, hb⟩ := ho
              have HSN := Lib.hid (show (stN F (.mk 4 s a b body els) env' N0 m') = none from by rw [stN_par hf, hrb]; rfl)
              have HBX := Lib.hid (HR3.out.but.transNew' hb HR3.out.sub)
              have HSX := Lib.hid (Sub.plusTrans HR3.out.sub hs4 HR3.out.but.size hb.size)
              have HH := Lib.hid hh
              clear hb hs4 hh c0 c1 c2 c3 c4 c5 c6 c7 c8 c9 c10 c11 cg hrb HC
              obtain ⟨i0, hi, hz0, hz1', hz2⟩ := info_parts infoNM
              obtain ⟨o, hc, ho, hX, hrow⟩ := (HH.out).row
              have hc : w'.cell? ⟨d, 9, none⟩ = some o := hc
              have hf9 := HnAt.fr (HH.out) 9
              have hbw9 : base ≤ w'.heap.size := by have := (HH.out).bd d (HH.out).X0; omega
              obtain ⟨A9, cp9, rfl⟩ := ho.form
              have HRW := Lib.hid hrow
              have HO := Lib.hid ho
              have hdl9 : d < w'.heap.size := ((HH.out).bd d (HH.out).X0).2
              have hm61 : M4.length + 1 ≤ maxLen := by unfold maxLen; omega
              have hm62 : (M4.length + 1) * 32 ≤ 140737488355328 := by omega
              clear hrow ho hX
              go_wp2_with (at_builtin; refine wpList_append_one rfl _ _ 84 rfl i0 _ Try.underlying84 hi hz0 hz1' hz2 rfl (by decide) Flat.keeps HO.out (x := (⟨4, acc0⟩ : NM)) (cs := [.int .i64 4, .int .i64 0, .bool false, .int .i64 0]) (Tx := Nowhere) ⟨rfl, ⟨⟨by decide, by decide⟩, ⟨by decide, by decide⟩, ⟨by decide, by decide⟩⟩⟩ rfl rfl rfl (Sub.nowhere _) (Sub.nowhere _) not_nowhere (fun u hu => oneNM (w := w') (S := Nowhere) (⟨4, acc0⟩ : NM) _ ⟨rfl, ⟨⟨by decide, by decide⟩, ⟨by decide, by decide⟩, ⟨by decide, by decide⟩⟩⟩ u hu) hm61 hm62 hbw9 ?_)
              intro v5 w5 ho5 hg5 hd5
              obtain ⟨A5', c5', rfl⟩ := ho5.form
              rw [List.length_append, List.length_singleton] at ho5 hd5 ⊢
              obtain ⟨f1, f2, X5, q1, q2, q3⟩ := HRW.out w' w5 _ _ (Below.refl _ _) hg5 ho5 (hd5.imp id (fun e => ⟨_, e, Nat.le_succ _⟩))
              have f1 : w5.frozen? ⟨d, 9, none⟩ = false := f1
              obtain ⟨u5, f2⟩ := Option.isSome_iff_exists.1 f2
              have f2 : w5.cell? ⟨d, 9, none⟩ = some u5 := f2
              have Q1 := Lib.hid q1
              have Q2 := Lib.hid q2
              have Q3 := Lib.hid q3
              clear q1 q2 q3 hc hg5 ho5 hd5
              go_wp2_with fail
              go_meet
              exact SwN.off HSN.out ⟨s', h', _, Q1.out, by rw [List.length_append, List.length_singleton]; omega, hF2⟩ (Sub.plusTrans HSX.out Q2.out HBX.out.size Q3.out.size) (HBX.out.transNew' Q3.out HSX.out)
            | some y4 =>
              rw [hrb] at ho
              obtain ⟨x4, m4⟩ := y4
              obtain ⟨rfl, ⟨X4, ha, hs4⟩, hb⟩ := ho
              have HSN := Lib.hid (show (stN F (.mk 4 s a b body els) env' N0 m') = some ([.par x4], m4, env') from by rw [stN_par hf, hrb]; rfl)
              have hel4 : env'.length ≤ m4.st := Nat.le_trans (Nat.le_of_lt hel3) (blN_len _ _ _ _ _ _ hrb).2.1
              obtain ⟨M4, hM4⟩ : ∃ M4, M4 = M0 ++ [⟨2, acc0⟩] ++ flatL x4 := ⟨_, rfl⟩
              have HR4 := Lib.hid (HR3.out.step hb ha hs4)
              simp only at HR4
              rw [← hM4] at HR4
              have HMM := Lib.hid (show M4 ++ [⟨4, acc0⟩] = M0 ++ flatL [.par x4] from by rw [hM4, flatL_cons, flatL_nil, flat_par]; simp)
              have hlen := HR4.out.at_.2.1
              have hlen2 := HR4.out.at_.2.2.1
              clear hb ha hs4 c0 c1 c2 c3 c4 c5 c6 c7 c8 c9 c10 c11 cg hrb HC hM4
              obtain ⟨i0, hi, hz0, hz1', hz2⟩ := info_parts infoNM
              obtain ⟨o, hc, ho, hX, hrow⟩ := (HR4.out.at_.1).row
              have hc : w'.cell? ⟨d, 9, none⟩ = some o := hc
              have hf9 := HnAt.fr (HR4.out.at_.1) 9
              have hbw9 : base ≤ w'.heap.size := by have := (HR4.out.at_.1).bd d (HR4.out.at_.1).X0; omega
              obtain ⟨A9, cp9, rfl⟩ := ho.form
              have HRW := Lib.hid hrow
              have HO := Lib.hid ho
              have hdl9 : d < w'.heap.size := ((HR4.out.at_.1).bd d (HR4.out.at_.1).X0).2
              have hm61 : M4.length + 1 ≤ maxLen := by unfold maxLen; omega
              have hm62 : (M4.length + 1) * 32 ≤ 140737488355328 := by omega
              clear hrow ho hX
              go_wp2_with (at_builtin; refine wpList_append_one rfl _ _ 84 rfl i0 _ Try.underlying84 hi hz0 hz1' hz2 rfl (by decide) Flat.keeps HO.out (x := (⟨4, acc0⟩ : NM)) (cs := [.int .i64 4, .int .i64 0, .bool false, .int .i64 0]) (Tx := Nowhere) ⟨rfl, ⟨⟨by decide, by decide⟩, ⟨by decide, by decide⟩, ⟨by decide, by decide⟩⟩⟩ rfl rfl rfl (Sub.nowhere _) (Sub.nowhere _) not_nowhere (fun u hu => oneNM (w := w') (S := Nowhere) (⟨4, acc0⟩ : NM) _ ⟨rfl, ⟨⟨by decide, by decide⟩, ⟨by decide, by decide⟩, ⟨by decide, by decide⟩⟩⟩ u hu) hm61 hm62 hbw9 ?_)
              intro v5 w5 ho5 hg5 hd5
              obtain ⟨A5', c5', rfl⟩ := ho5.form
              rw [List.length_append, List.length_singleton] at ho5 hd5 ⊢
              obtain ⟨f1, f2, X5, q1, q2, q3⟩ := HRW.out w' w5 _ _ (Below.refl _ _) hg5 ho5 (hd5.imp id (fun e => ⟨_, e, Nat.le_succ _⟩))
              have f1 : w5.frozen? ⟨d, 9, none⟩ = false := f1
              obtain ⟨u5, f2⟩ := Option.isSome_iff_exists.1 f2
              have f2 : w5.cell? ⟨d, 9, none⟩ = some u5 := f2
              have Q1 := Lib.hid q1
              have Q2 := Lib.hid q2
              have Q3 := Lib.hid q3
              clear q1 q2 q3 hc hg5 ho5 hd5
              have HR5 := Lib.hid (HR4.out.step (e' := e) (m' := m4) (ms' := M4 ++ [⟨4, acc0⟩]) Q3.out ⟨Q1.out, by rw [List.length_append, List.length_singleton]; omega, HR4.out.at_.2.2⟩ Q2.out)
              go_wp2_with fail
              go_meet
              exact SwN.on HSN.out HMM.out HR5.out hel4
        by_cases h5 : k = 5
        · subst h5
          as_aux_lemma =>
            skip
            obtain ⟨i0, hi, hz0, hz1', hz2⟩ := info_parts infoNM
            obtain ⟨o, hc, ho, hX, hrow⟩ := HR2.out.at_.1.row
            have hc : W3.cell? ⟨d, 9, none⟩ = some o := hc
            obtain ⟨A9, cp9, rfl⟩ := ho.form
            have HRW := Lib.hid hrow
            have hw24 : IntKind.i64.wrap 3 = 3 := by decide
            have hdl : d < W3.heap.size := HR2.out.at_.lt d HR2.out.at_.1.X0
            have htl : (M0).length ≤ 6000 := by have := HR2.out.at_.2.1; have := HR2.out.at_.2.2.1; have := HR2.out.at_.2.2.2; omega
            have ma1 := Lib.hid (show (M0).length + [(⟨3, acc0⟩ : NM)].length ≤ maxLen by unfold maxLen; simp only [List.length_singleton]; omega)
            have ma2 := Lib.hid (show ((M0).length + [(⟨3, acc0⟩ : NM)].length) * 32 ≤ 140737488355328 by simp only [List.length_singleton]; omega)
            have hbWW : base ≤ W3.heap.size := Nat.le_trans HR2.out.rn.bd.ge (Nat.le_of_lt HR2.out.rn.bd.lt)
            have HBA := Lib.hid (show Below W3.heap.size W3 (W3.alloc (.cells #[.int .i64 3, .int .i64 0, .bool false, .int .i64 0] 126)).drew from ((Below.refl _ _).alloc (Nat.le_refl _) _).drew)
            have H2d := Lib.hid (ho.keep Flat.keeps HBA.out)
            have HBB := Lib.hid (show base ≤ ((W3.alloc (.cells #[.int .i64 3, .int .i64 0, .bool false, .int .i64 0] 126)).drew).heap.size from Nat.le_trans hbWW HBA.out.size)
            have HRD := Lib.hid (show RdL (Flat encNM okNM) 4 32 (W3.alloc (.cells #[.int .i64 3, .int .i64 0, .bool false, .int .i64 0] 126)).drew (fun _ => True) [(⟨3, acc0⟩ : NM)] (.slice (some ⟨W3.heap.size, 0, none⟩) 1 1) from rd_one (enc := encNM) (x := (⟨3, acc0⟩ : NM)) rfl (cells_newAt W3 [.int .i64 3, .int .i64 0, .bool false, .int .i64 0] 126 rfl) ⟨⟨by decide, by decide⟩, ⟨by decide, by decide⟩, ⟨by decide, by decide⟩⟩ trivial (by decide))
            have hf9 := HnAt.fr HR2.out.at_.1 9
            have HS2 := Lib.hid (show ∀ w5, ((W3.alloc (.cells #[.int .i64 3, .int .i64 0, .bool false, .int .i64 0] 126)).drew).grownBy w5 (Value.ownBlock (.slice A9 (M0).length cp9)) → Same2 d y W3 w5 from fun w5 hg => (Same2.ofBut (But.of_below (T := Nowhere) HBA.out) hdl HR2.out.rn.bd.lt (fun h => h) (fun h => h)).trans (Same2.ofBut (But.of_grown hg) (Nat.lt_of_lt_of_le hdl HBA.out.size) (Nat.lt_of_lt_of_le HR2.out.rn.bd.lt HBA.out.size) (fun e => (hX d e).2 rfl) (fun e => HR2.out.nd (hX y e).1)))
            have hylS : y < W3.heap.size := HR2.out.rn.bd.lt
            clear hrow ho hX
            go_upto_region 24 with (fail)
            go_cut [] (fun wx => ∃ X', Hid (SNn base d F S y g [.int .i64 5, .string s, .int .i64 k1, .int .i64 n1, .string s1, .slice A1 m1 p1, .int .i64 k2, .int .i64 n2, .string s2, .slice A2 m2 p2, .slice A3 body.length p3, .slice A4 els.length p4] a b (exV k1 n1 s1 (.slice A1 m1 p1)) (exV k2 n2 s2 (.slice A2 m2 p2)) body els (.slice A3 body.length p3) (.slice A4 els.length p4) w X wx X' (e + 1) m'.step (M0 ++ [⟨3, acc0⟩]) env' (.slice Ae env'.length ce)))
            case first =>
              skip
              refine wp_region_pre 11 (S := (fun w' => Same2 d y W3 w')) (by kernel_rfl) (by kernel_rfl) (Same2.drew (Same2.refl _ _ _)) (fun hHeld => ?_)
              simp only [List.take_succ_cons, List.take_zero]
              refine wpAnyH_take_at (i := 0) (v := ?_) (some 119) rfl rfl (by kernel_rfl) (by kernel_rfl) (by kernel_rfl) (fun _ _ _ h => h) (Or.inl ⟨by rfl, ?_⟩) (by assumption) ?_
              rotate_left
              · (intro w hSw; (try dsimp only at hSw); go_simp; (try with_reducible rfl))
              (try simp only [Act.put, List.setIfInBounds_toArray, List.set_cons_zero, List.set_cons_succ])
              refine wpAnyH_take_at (i := 1) (v := ?_) (some 120) rfl rfl (by kernel_rfl) (by kernel_rfl) (by kernel_rfl) (fun _ _ _ h => h) (Or.inl ⟨by rfl, ?_⟩) (by assumption) ?_
              rotate_left
              · (intro w hSw; (try dsimp only at hSw); go_simp; (try with_reducible rfl))
              (try simp only [Act.put, List.setIfInBounds_toArray, List.set_cons_zero, List.set_cons_succ])
              refine wpAnyH_take_at (i := 2) (v := ?_) (some 121) rfl rfl (by kernel_rfl) (by kernel_rfl) (by kernel_rfl) (fun _ _ _ h => h) (Or.inl ⟨by rfl, ?_⟩) (by assumption) ?_
              rotate_left
              · (intro w hSw; (try dsimp only at hSw); go_simp; (try with_reducible rfl))
              (try simp only [Act.put, List.setIfInBounds_toArray, List.set_cons_zero, List.set_cons_succ])
              refine wpAnyH_take_at (i := 3) (v := ?_) (some 122) rfl rfl (by kernel_rfl) (by kernel_rfl) (by kernel_rfl) (fun _ _ _ h => h) (Or.inl ⟨by rfl, ?_⟩) (by assumption) ?_
              rotate_left
              · (intro w hSw; (try dsimp only at hSw); go_simp; (try with_reducible rfl))
              (try simp only [Act.put, List.setIfInBounds_toArray, List.set_cons_zero, List.set_cons_succ])
              refine wpAnyH_take_at (i := 4) (v := ?_) (some 123) rfl rfl (by kernel_rfl) (by kernel_rfl) (by kernel_rfl) (fun _ _ _ h => h) (Or.inl ⟨by rfl, ?_⟩) (by assumption) ?_
              rotate_left
              · (intro w hSw; (try dsimp only at hSw); go_simp; (try with_reducible rfl))
              (try simp only [Act.put, List.setIfInBounds_toArray, List.set_cons_zero, List.set_cons_succ])
              refine wpAnyH_take_at (i := 5) (v := ?_) (some 124) rfl rfl (by kernel_rfl) (by kernel_rfl) (by kernel_rfl) (fun _ _ _ h => h) (Or.inl ⟨by rfl, ?_⟩) (by assumption) ?_
              rotate_left
              · (intro w hSw; (try dsimp only at hSw); go_simp; (try with_reducible rfl))
              (try simp only [Act.put, List.setIfInBounds_toArray, List.set_cons_zero, List.set_cons_succ])
              refine wpAnyH_take_at (i := 6) (v := ?_) (some 125) rfl rfl (by kernel_rfl) (by kernel_rfl) (by kernel_rfl) (fun _ _ _ h => h) (Or.inl ⟨by rfl, ?_⟩) (by assumption) ?_
              rotate_left
              · (intro w hSw; (try dsimp only at hSw); go_simp; (try with_reducible rfl))
              (try simp only [Act.put, List.setIfInBounds_toArray, List.set_cons_zero, List.set_cons_succ])
              refine wpAnyH_take_at (i := 7) (v := ?_) (some 126) rfl rfl (by kernel_rfl) (by kernel_rfl) (by kernel_rfl) (fun _ _ _ h => h) (Or.inl ⟨by rfl, ?_⟩) (by assumption) ?_
              rotate_left
              · (intro w hSw; (try dsimp only at hSw); go_simp; (try with_reducible rfl))
              (try simp only [Act.put, List.setIfInBounds_toArray, List.set_cons_zero, List.set_cons_succ])
              refine wpAnyH_take_at (i := 8) (v := ?_) (some 127) rfl rfl (by kernel_rfl) (by kernel_rfl) (by kernel_rfl) (fun _ _ _ h => h) (Or.inl ⟨by rfl, ?_⟩) (by assumption) ?_
              rotate_left
              · (intro w hSw; (try dsimp only at hSw); go_simp; (try with_reducible rfl))
              (try simp only [Act.put, List.setIfInBounds_toArray, List.set_cons_zero, List.set_cons_succ])
              refine wpAnyH_ready (rs := [9]) (by kernel_rfl) (by simp) ?_
              refine AllReadyH.cons rfl (fun K hK => ?_) AllReadyH.nil
              go_simp
              skip
              refine hK.out _ _ ?_ (fun hHeld => ?_)
              · exact Same2.ofBut (But.of_below (T := Nowhere) HBA.out) hdl hylS (fun h => h) (fun h => h)
              clear hK K
              (try simp only [Act.put, List.setIfInBounds_toArray, List.set_cons_zero, List.set_cons_succ])
              refine wpAnyH_ready (rs := [10]) (by kernel_rfl) (by simp) ?_
              refine AllReadyH.cons rfl (fun K hK => ?_) AllReadyH.nil
              refine step_append_list (by rfl) (.tmp 123) (.tmp 128) 84 (by rfl) (by rfl) (by rfl) i0 _ Try.underlying84 hi hz0 hz1' hz2 rfl (by decide) Flat.keeps (l := M0) (m := [⟨3, acc0⟩]) (base := base) (S := Nowhere) (Tx := Nowhere) (U := fun _ => True) (v := .slice A9 (M0).length cp9) (RdL.bare HRD.out _) H2d.out (Sub.nowhere _) (Sub.nowhere _) not_nowhere oneNM ma1.out ma2.out HBB.out ?_
              intro v5 w5 ho5 hg5 hd5
              obtain ⟨f1, f2, X', q1, q2, q3⟩ := HRW.out _ w5 _ _ HBA.out hg5 ho5 (hd5.imp id (fun e => ⟨_, e, Nat.le_refl _⟩))
              have f1 : w5.frozen? ⟨d, 9, none⟩ = false := f1
              obtain ⟨u5, f2⟩ := Option.isSome_iff_exists.1 f2
              have f2 : w5.cell? ⟨d, 9, none⟩ = some u5 := f2
              obtain ⟨A5', c5', rfl⟩ := ho5.form
              simp only [List.length_append, List.length_singleton] at q1 q2 q3
              refine hK.out _ _ ?_ (fun hHeld => ?_)
              · exact HS2.out _ hg5
              clear hK K
              (try simp only [Act.put, List.setIfInBounds_toArray])
              refine wpAnyH_done (by kernel_rfl) ?_ _
              unfold QPre
              simp only [List.drop_succ_cons, List.drop_zero]
              (try go_wp2_with fail)
              go_meet
              refine ⟨X', Lib.hid (HR2.out.step q3 ⟨q1, ?_, HR2.out.at_.2.2⟩ q2)⟩
              (try clear hw24)
              have := HR2.out.at_.2.1
              rw [List.length_append, List.length_singleton]
              simp only [US.step]
              omega
            case rest =>
            obtain ⟨X1, HR3⟩ := hcut
            obtain ⟨W4, hW4⟩ : ∃ W4, W4 = wc := ⟨_, rfl⟩
            subst hW4
            (try clear hw24)
            clear c0 c1 c2 c3 c4 c5 c6 c7 c8 c9 c10 c11 cg hgl2 hyl2 hc hf9 HRW H2d HRD HBA HBB ma1 ma2 hdl HS2 hylS
            have hlb5 : labelsL body = N1 := by rw [← hlbb, labels_one (by omega)]
            have c0 := HR3.out.rn.bd.cell 0 _ rfl; have c1 := HR3.out.rn.bd.cell 1 _ rfl; have c2 := HR3.out.rn.bd.cell 2 _ rfl; have c3 := HR3.out.rn.bd.cell 3 _ rfl; have c4 := HR3.out.rn.bd.cell 4 _ rfl; have c5 := HR3.out.rn.bd.cell 5 _ rfl; have c6 := HR3.out.rn.bd.cell 6 _ rfl; have c7 := HR3.out.rn.bd.cell 7 _ rfl; have c8 := HR3.out.rn.bd.cell 8 _ rfl; have c9 := HR3.out.rn.bd.cell 9 _ rfl; have c10 := HR3.out.rn.bd.cell 10 _ rfl; have c11 := HR3.out.rn.bd.cell 11 _ rfl
            have cg := HR3.out.gb.cell 0 _ rfl
            have HC := Lib.hid (HIB.out.1 base W4 d X1 (e + 1) m'.step (M0 ++ [⟨3, acc0⟩]) env' N0 S _ _ HR3.out.at_ HS.out HR3.out.rn.r1 (HR3.out.env.fewer (fun k hk => .inl hk)) (Nat.le_of_lt hel3) (by omega) hx3 _ rfl)
            have hF2 := HR3.out.at_.2.2.2
            go_wp2_with fail
            refine HC.out.mono ?_
            rintro en w' ho
            cases hrb : blN F body env' N0 m'.step with
            | none =>
              rw [hrb] at ho
              obtain ⟨rfl, ⟨X4, ⟨s', h', M4, hh, hlen, -⟩, hs4⟩, hb⟩ := ho
              have HSN := Lib.hid (show (stN F (.mk 5 s a b body els) env' N0 m') = none from by rw [stN_fin hf, hrb]; rfl)
              have HBX := Lib.hid (HR3.out.but.transNew' hb HR3.out.sub)
              have HSX := Lib.hid (Sub.plusTrans HR3.out.sub hs4 HR3.out.but.size hb.size)
              have HH := Lib.hid hh
              clear hb hs4 hh c0 c1 c2 c3 c4 c5 c6 c7 c8 c9 c10 c11 cg hrb HC
              obtain ⟨i0, hi, hz0, hz1', hz2⟩ := info_parts infoNM
              obtain ⟨o, hc, ho, hX, hrow⟩ := (HH.out).row
              have hc : w'.cell? ⟨d, 9, none⟩ = some o := hc
              have hf9 := HnAt.fr (HH.out) 9
              have hbw9 : base ≤ w'.heap.size := by have := (HH.out).bd d (HH.out).X0; omega
              obtain ⟨A9, cp9, rfl⟩ := ho.form
              have HRW := Lib.hid hrow
              have HO := Lib.hid ho
              have hdl9 : d < w'.heap.size := ((HH.out).bd d (HH.out).X0).2
              have hm61 : M4.length + 1 ≤ maxLen := by unfold maxLen; omega
              have hm62 : (M4.length + 1) * 32 ≤ 140737488355328 := by omega
              clear hrow ho hX
              go_wp2_with (at_builtin; refine wpList_append_one rfl _ _ 84 rfl i0 _ Try.underlying84 hi hz0 hz1' hz2 rfl (by decide) Flat.keeps HO.out (x := (⟨4, acc0⟩ : NM)) (cs := [.int .i64 4, .int .i64 0, .bool false, .int .i64 0]) (Tx := Nowhere) ⟨rfl, ⟨⟨by decide, by decide⟩, ⟨by decide, by decide⟩, ⟨by decide, by decide⟩⟩⟩ rfl rfl rfl (Sub.nowhere _) (Sub.nowhere _) not_nowhere (fun u hu => oneNM (w := w') (S := Nowhere) (⟨4, acc0⟩ : NM) _ ⟨rfl, ⟨⟨by decide, by decide⟩, ⟨by decide, by decide⟩, ⟨by decide, by decide⟩⟩⟩ u hu) hm61 hm62 hbw9 ?_)
              intro v5 w5 ho5 hg5 hd5
              obtain ⟨A5', c5', rfl⟩ := ho5.form
              rw [List.length_append, List.length_singleton] at ho5 hd5 ⊢
              obtain ⟨f1, f2, X5, q1, q2, q3⟩ := HRW.out w' w5 _ _ (Below.refl _ _) hg5 ho5 (hd5.imp id (fun e => ⟨_, e, Nat.le_succ _⟩))
              have f1 : w5.frozen? ⟨d, 9, none⟩ = false := f1
              obtain ⟨u5, f2⟩ := Option.isSome_iff_exists.1 f2
              have f2 : w5.cell? ⟨d, 9, none⟩ = some u5 := f2
              have Q1 := Lib.hid q1
              have Q2 := Lib.hid q2
              have Q3 := Lib.hid q3
              clear q1 q2 q3 hc hg5 ho5 hd5
              go_wp2_with fail
              go_meet
              exact SwN.off HSN.out ⟨s', h', _, Q1.out, by rw [List.length_append, List.length_singleton]; omega, hF2⟩ (Sub.plusTrans HSX.out Q2.out HBX.out.size Q3.out.size) (HBX.out.transNew' Q3.out HSX.out)
            | some y4 =>
              rw [hrb] at ho
              obtain ⟨x4, m4⟩ := y4
              obtain ⟨rfl, ⟨X4, ha, hs4⟩, hb⟩ := ho
              have HSN := Lib.hid (show (stN F (.mk 5 s a b body els) env' N0 m') = some ([.fin x4], m4, env') from by rw [stN_fin hf, hrb]; rfl)
              have hel4 : env'.length ≤ m4.st := Nat.le_trans (Nat.le_of_lt hel3) (blN_len _ _ _ _ _ _ hrb).2.1
              obtain ⟨M4, hM4⟩ : ∃ M4, M4 = M0 ++ [⟨3, acc0⟩] ++ flatL x4 := ⟨_, rfl⟩
              have HR4 := Lib.hid (HR3.out.step hb ha hs4)
              simp only at HR4
              rw [← hM4] at HR4
              have HMM := Lib.hid (show M4 ++ [⟨4, acc0⟩] = M0 ++ flatL [.fin x4] from by rw [hM4, flatL_cons, flatL_nil, flat_fin]; simp)
              have hlen := HR4.out.at_.2.1
              have hlen2 := HR4.out.at_.2.2.1
              clear hb ha hs4 c0 c1 c2 c3 c4 c5 c6 c7 c8 c9 c10 c11 cg hrb HC hM4
              obtain ⟨i0, hi, hz0, hz1', hz2⟩ := info_parts infoNM
              obtain ⟨o, hc, ho, hX, hrow⟩ := (HR4.out.at_.1).row
              have hc : w'.cell? ⟨d, 9, none⟩ = some o := hc
              have hf9 := HnAt.fr (HR4.out.at_.1) 9
              have hbw9 : base ≤ w'.heap.size := by have := (HR4.out.at_.1).bd d (HR4.out.at_.1).X0; omega
              obtain ⟨A9, cp9, rfl⟩ := ho.form
              have HRW := Lib.hid hrow
              have HO := Lib.hid ho
              have hdl9 : d < w'.heap.size := ((HR4.out.at_.1).bd d (HR4.out.at_.1).X0).2
              have hm61 : M4.length + 1 ≤ maxLen := by unfold maxLen; omega
              have hm62 : (M4.length + 1) * 32 ≤ 140737488355328 := by omega
              clear hrow ho hX
              go_wp2_with (at_builtin; refine wpList_append_one rfl _ _ 84 rfl i0 _ Try.underlying84 hi hz0 hz1' hz2 rfl (by decide) Flat.keeps HO.out (x := (⟨4, acc0⟩ : NM)) (cs := [.int .i64 4, .int .i64 0, .bool false, .int .i64 0]) (Tx := Nowhere) ⟨rfl, ⟨⟨by decide, by decide⟩, ⟨by decide, by decide⟩, ⟨by decide, by decide⟩⟩⟩ rfl rfl rfl (Sub.nowhere _) (Sub.nowhere _) not_nowhere (fun u hu => oneNM (w := w') (S := Nowhere) (⟨4, acc0⟩ : NM) _ ⟨rfl, ⟨⟨by decide, by decide⟩, ⟨by decide, by decide⟩, ⟨by decide, by decide⟩⟩⟩ u hu) hm61 hm62 hbw9 ?_)
              intro v5 w5 ho5 hg5 hd5
              obtain ⟨A5', c5', rfl⟩ := ho5.form
              rw [List.length_append, List.length_singleton] at ho5 hd5 ⊢
              obtain ⟨f1, f2, X5, q1, q2, q3⟩ := HRW.out w' w5 _ _ (Below.refl _ _) hg5 ho5 (hd5.imp id (fun e => ⟨_, e, Nat.le_succ _⟩))
              have f1 : w5.frozen? ⟨d, 9, none⟩ = false := f1
              obtain ⟨u5, f2⟩ := Option.isSome_iff_exists.1 f2
              have f2 : w5.cell? ⟨d, 9, none⟩ = some u5 := f2
              have Q1 := Lib.hid q1
              have Q2 := Lib.hid q2
              have Q3 := Lib.hid q3
              clear q1 q2 q3 hc hg5 ho5 hd5
              have HR5 := Lib.hid (HR4.out.step (e' := e) (m' := m4) (ms' := M4 ++ [⟨4, acc0⟩]) Q3.out ⟨Q1.out, by rw [List.length_append, List.length_singleton]; omega, HR4.out.at_.2.2⟩ Q2.out)
              go_wp2_with fail
              go_meet
              exact SwN.on HSN.out HMM.out HR5.out hel4
        by_cases h6 : k = 6
        · subst h6
          as_aux_lemma =>
            skip
            have hlb5 : labelsL body + labelsL els = N1 := by rw [← hlbb, labels_if]
            by_cases hw : va = 0
            case neg =>
              have hwa : ¬ a.worth env' = 0 := by rw [← HVA.out]; exact hw
              have HWA := Lib.hid hwa
              clear hwa
              have HC := Lib.hid (HIB.out.1 base W3 d X' e m'.step M0 env' N0 S _ _ HR2.out.at_ HS.out HR2.out.rn.r1 (HR2.out.env.fewer (fun k hk => .inl hk)) (Nat.le_of_lt hel3) (by omega) hx3 _ rfl)
              go_wp2_with fail
              refine HC.out.mono ?_
              rintro en w' ho
              cases hrb : blN F body env' N0 m'.step with
              | none =>
                rw [hrb] at ho
                obtain ⟨rfl, ⟨X4, hE, hs4⟩, hb⟩ := ho
                have HSN := Lib.hid (show (stN F (.mk 6 s a b body els) env' N0 m') = none from by rw [stN_then hf HWA.out, hrb]; rfl)
                have HOF := Lib.hid (And.intro hE (And.intro (Sub.plusTrans HR2.out.sub hs4 HR2.out.but.size hb.size) (HR2.out.but.transNew' hb HR2.out.sub)))
                clear hb hE hs4 c0 c1 c2 c3 c4 c5 c6 c7 c8 c9 c10 c11 cg hrb HC
                go_wp2_with fail
                go_meet
                exact SwN.off HSN.out HOF.out.1 HOF.out.2.1 HOF.out.2.2
              | some y4 =>
                rw [hrb] at ho
                obtain ⟨x4, m4⟩ := y4
                obtain ⟨rfl, ⟨X4, ha, hs4⟩, hb⟩ := ho
                have HSN := Lib.hid (show (stN F (.mk 6 s a b body els) env' N0 m') = some (x4, m4, env') from by rw [stN_then hf HWA.out, hrb]; rfl)
                have HR4 := Lib.hid (HR2.out.step hb ha hs4)
                have hel4 : env'.length ≤ m4.st := Nat.le_trans (Nat.le_of_lt hel3) (blN_len _ _ _ _ _ _ hrb).2.1
                clear hb ha hs4 c0 c1 c2 c3 c4 c5 c6 c7 c8 c9 c10 c11 cg hrb HC
                go_wp2_with fail
                go_meet
                exact SwN.on HSN.out rfl HR4.out hel4
            have HWA := Lib.hid (show a.worth env' = 0 by rw [← HVA.out]; exact hw)
            subst hw
            have HRd := Lib.hid (HR2.out.below ((Below.refl _ _).drew))
            have hwl1 := i64_2 (show N0 + labelsL body ≤ 1048577 by omega)
            have HA := Lib.hid (show ∀ w3, Below W3.drew.heap.size W3.drew w3 → SNn base d F S y g [.int .i64 6, .string s, .int .i64 k1, .int .i64 n1, .string s1, .slice A1 m1 p1, .int .i64 k2, .int .i64 n2, .string s2, .slice A2 m2 p2, .slice A3 body.length p3, .slice A4 els.length p4] a b (exV k1 n1 s1 (.slice A1 m1 p1)) (exV k2 n2 s2 (.slice A2 m2 p2)) body els (.slice A3 body.length p3) (.slice A4 els.length p4) w X w3 X' e m'.step M0 env' (.slice Ae env'.length ce) ∧ Same2 y g W3 w3 from fun w3 hb => ⟨HRd.out.below hb, Same2.trans (Same2.drew (Same2.refl y g W3)) (SNn.same2 HRd.out (But.of_below hb))⟩)
            have HBL := Lib.hid (show ∀ w3 r, SNn base d F S y g [.int .i64 6, .string s, .int .i64 k1, .int .i64 n1, .string s1, .slice A1 m1 p1, .int .i64 k2, .int .i64 n2, .string s2, .slice A2 m2 p2, .slice A3 body.length p3, .slice A4 els.length p4] a b (exV k1 n1 s1 (.slice A1 m1 p1)) (exV k2 n2 s2 (.slice A2 m2 p2)) body els (.slice A3 body.length p3) (.slice A4 els.length p4) w X w3 X' e m'.step M0 env' (.slice Ae env'.length ce) → blN F els env' (N0 + labelsL body) m'.step = r → Calls Try.prog 28 #[.pointer (some ⟨d, 0, none⟩), .slice A4 els.length p4, vI ((N0 : Int) + (labelsL body : Int)), .slice Ae env'.length ce, vI (F : Int)] w3 (OutN base d F e w3 X' M0 r) from fun w3 r h hr => by
              have := HIB.out.2 base w3 d X' e m'.step M0 env' (N0 + labelsL body) S _ _ h.at_ HS.out h.rn.r2 (h.env.fewer (fun k hk => .inl hk)) (Nat.le_of_lt hel3) (by omega) hx4 r hr
              rwa [Int.natCast_add] at this)
            have HLB2 := Lib.hid (fun w S v hS r => (labs_all _ body (Nat.le_refl _)).2 w S v hS r hx3)
            cases hrb : blN F els env' (N0 + labelsL body) m'.step with
            | none =>
              have HSN := Lib.hid (show (stN F (.mk 6 s a b body els) env' N0 m') = none from by rw [stN_else hf HWA.out, hrb]; rfl)
              go_upto_region 30 with (fail)
              go_region_held3 (fun w' => Same2 y g W3 w') (first | assumption | exact Same2.refl _ _ _ | exact Same2.drew (Same2.refl _ _ _))
                (first
                  | ((go_at_call 48; refine (HLB2.out _ S _ HRd.out.sW HRd.out.rn.r1).mono ?_; rintro e w3 ⟨rfl, hb3⟩; obtain ⟨hr3, hs3⟩ := HA.out w3 hb3))
                  | ((go_at_call 28; refine (HBL.out w3 _ hr3 hrb).mono ?_; rintro en w4 ⟨rfl, ⟨X4, hE, hs4⟩, hb⟩; have hbx := hr3.but.transNew' hb hr3.sub; have hs5 : Same2 y g W3 w4 := hs3.trans (SNn.same2 hr3 hb); have hsx := Sub.plusTrans hr3.sub hs4 hr3.but.size hb.size)))
              all_goals (try go_wp2_with fail)
              all_goals go_meet
              all_goals exact SwN.off HSN.out hE hsx hbx
            | some y4 =>
              obtain ⟨x4, m4⟩ := y4
              have HSN := Lib.hid (show (stN F (.mk 6 s a b body els) env' N0 m') = some (x4, m4, env') from by rw [stN_else hf HWA.out, hrb]; rfl)
              have hel4 : env'.length ≤ m4.st := Nat.le_trans (Nat.le_of_lt hel3) (blN_len _ _ _ _ _ _ hrb).2.1
              go_upto_region 30 with (fail)
              go_region_held3 (fun w' => Same2 y g W3 w') (first | assumption | exact Same2.refl _ _ _ | exact Same2.drew (Same2.refl _ _ _))
                (first
                  | ((go_at_call 48; refine (HLB2.out _ S _ HRd.out.sW HRd.out.rn.r1).mono ?_; rintro e w3 ⟨rfl, hb3⟩; obtain ⟨hr3, hs3⟩ := HA.out w3 hb3))
                  | ((go_at_call 28; refine (HBL.out w3 _ hr3 hrb).mono ?_; rintro en w4 ⟨rfl, ⟨X4, ha, hs4⟩, hb⟩; have hr4 := hr3.step hb ha hs4; have hs5 : Same2 y g W3 w4 := hs3.trans (SNn.same2 hr3 hb))))
              all_goals (try go_wp2_with fail)
              all_goals go_meet
              all_goals exact SwN.on HSN.out rfl hr4 hel4
        obtain rfl : k = 7 := by omega
        · as_aux_lemma =>
            skip
            have hlb5 : labelsL body = N1 := by rw [← hlbb, labels_one (by omega)]
            obtain ⟨rf, hrf⟩ : ∃ rf, loopN F vb (fun i m => blN F body (env' ++ [⟨s, i⟩]) N0 m) (F + 1) va m'.step = rf := ⟨_, rfl⟩
            have HRF := Lib.hid (show (loopN F vb (fun i m => blN F body (env' ++ [⟨s, i⟩]) N0 m) (F + 1) va m'.step).map (fun y => ([] ++ y.1, y.2)) = rf from by rw [hrf]; cases rf <;> rfl)
            have HSN := Lib.hid (show (stN F (.mk 7 s a b body els) env' N0 m') = rf.map fun y => (y.1, y.2, env') from by rw [stN_for hf, ← HVA.out, ← HVB.out, hrf])
            have hia := HIA.out
            have hib := HIB2.out
            unfold inI at hia hib
            clear hrf
            go_wp2_with fail
            clear c0 c1 c2 c3 c4 c5 c6 c7 c8 c9 c10 c11 cg
            go_loopw [17, 18] (fun o u wr => ∃ (i : Int) (n : Nat), u = .int .i64 i ∧ -9223372036854775808 ≤ i ∧ i ≤ 9223372036854775807 ∧ ((∃ (mm : US) (xx : List Mk) (X1 : Blocks), o = .bool true ∧ F < mm.st + n ∧ env'.length < mm.st ∧ Hid ((loopN F vb (fun i m => blN F body (env' ++ [⟨s, i⟩]) N0 m) n i mm).map (fun y => (xx ++ y.1, y.2)) = rf) ∧ Hid (SNn base d F S y g [.int .i64 7, .string s, .int .i64 k1, .int .i64 n1, .string s1, .slice A1 m1 p1, .int .i64 k2, .int .i64 n2, .string s2, .slice A2 m2 p2, .slice A3 body.length p3, .slice A4 els.length p4] a b (exV k1 n1 s1 (.slice A1 m1 p1)) (exV k2 n2 s2 (.slice A2 m2 p2)) body els (.slice A3 body.length p3) (.slice A4 els.length p4) w X wr X1 e mm (M0 ++ flatL xx) env' (.slice Ae env'.length ce))) ∨ (o = .bool false ∧ Hid (rf = none) ∧ Hid (∃ X1, NnEnd base wr d X1 F e ∧ Sub X1 (Plus X w.heap.size wr.heap.size)) ∧ Hid (But X w wr)))) (fun _ u _ => (vb - intOf u).toNat)
            case atStart => exact ⟨va, F + 1, rfl, hia.1, hia.2, .inl ⟨m'.step, [], X', rfl, by omega, hel3, HRF, by rw [flatL_nil, List.append_nil]; exact HR2⟩⟩
            case round =>
              clear HRF
              obtain ⟨i, n, rfl, hi0, hi1, ⟨mm, xx, X1, rfl, hn, hel', HRES', HR⟩ | ⟨rfl, HRX, HEX, HBX⟩⟩ := hrel
              case inr =>
                obtain ⟨X1, hE1, hS1⟩ := HEX.out
                have HE1 := Lib.hid hE1
                have HS1 := Lib.hid hS1
                clear hE1 hS1
                by_cases hlt : i < vb
                all_goals
                  go_wp2_with fail
                  go_meet
                  exact SwN.off (by rw [HSN.out, HRX.out]; rfl) HE1.out HS1.out HBX.out
              by_cases hlt : i < vb
              case neg =>
                have hr := HRES'.out
                have HR' := Lib.hid (show rf = some (xx, mm) from by
                  rw [← hr]
                  cases n <;> rw [loopN, if_neg hlt] <;> simp)
                clear hr
                go_wp2_with fail
                go_meet
                exact SwN.on (by rw [HSN.out, HR'.out]; rfl) rfl HR.out (Nat.le_of_lt hel')
              have d8 : wr.cell? ⟨d, 8, none⟩ = some (vI (mm.st : Int)) := HnAt.midAt HR.out.at_.1 (n := 0) rfl
              have e8 := HnAt.fr HR.out.at_.1 8
              have hms : (mm.st : Int) ≤ 2000 := by have := HR.out.at_.2.2.1; have := HR.out.at_.2.2.2; omega
              have hFF := HR.out.at_.2.2.2
              by_cases hf' : mm.st < F
              case neg =>
                have HN' := Lib.hid (show rf = none from by
                  rw [← HRES'.out]
                  cases n <;> rw [loopN, if_pos hlt]
                  · rfl
                  · rw [if_neg hf']; rfl)
                have hgt' : decide ((mm.st : Int) < (F : Int)) = false := by simp; omega
                have HEE := Lib.hid (NnAt.spent HR.out.at_ ((mm.st : Int) + 1))
                have HBB := Lib.hid (HR.out.but.transNew' HEE.out.2 HR.out.sub)
                go_upto_region 37 with (fail)
                go_quiet (fail)
                go_wp2_with fail
                go_roundw
                case rel => exact ⟨i + 1, n, by go_num, by omega, by omega, .inr ⟨rfl, HN', Lib.hid ⟨X1, HEE.out.1.but (T := Nowhere) ((But.refl _ _).drewN nq) (fun _ _ h => h), (HR.out.sub).trans (fun k hk => hk.imp id (fun e => ⟨e.1, Nat.lt_of_lt_of_le e.2 (by rw [show (World.drewN _ nq).heap.size = (wr.setCell ⟨d, 8, none⟩ (vI ((mm.st : Int) + 1))).heap.size from rfl, size_setCell]; exact Nat.le_refl _)⟩))⟩, Lib.hid (HBB.out.drewN nq)⟩⟩
                case measure => simp [intOf]; omega
              obtain ⟨n0, rfl⟩ : ∃ n0, n = n0 + 1 := ⟨n - 1, by have := HR.out.at_.2.2.1; omega⟩
              have hgo := HRES'.out
              rw [loopN, if_pos hlt, if_pos hf'] at hgo
              have HGO := Lib.hid hgo
              have HQ := Lib.hid (NnAt.step HR.out.at_ hf')
              have HR3 := Lib.hid (HR.out.step HQ.out.2 HQ.out.1 (Sub.plus _ _ _))
              have hgt1 : decide ((mm.st : Int) < (F : Int)) = true := by simp; omega
              clear hgo HRES' HQ
              go_upto_region 37 with (fail)
              generalize wr.setCell ⟨d, 8, none⟩ (vI ((mm.st : Int) + 1)) = W5 at *
              clear d8 e8
              have c10 := HR3.out.rn.bd.cell 10 _ rfl
              have c1 := HR3.out.rn.bd.cell 1 _ rfl
              have cg := HR3.out.gb.cell 0 _ rfl
              have hmo' := HR3.out.at_.2.2.1
              have HII := Lib.hid (show inI i from ⟨by omega, by omega⟩)
              have HWC := Lib.hid (show ∀ wq, W5 = wq ∨ W5.drew = wq → Calls Try.prog 50 #[vI i, .pointer (some ⟨g, 0, none⟩), .pointer (some ⟨y, 0, none⟩)] wq fun e w' => (∃ x, e = .returned x ∧ FrX (Both X1 (Is g)) w' (env' ++ [⟨s, i⟩]) x) ∧ Below wq.heap.size wq w' from fun wq hq => by
                rcases hq with rfl | rfl
                · exact with_anyN env' hx2000 s HOKs i HII.out _ (Both X1 (Is g)) _ g y [] (fun k hk => hk.elim (HR3.out.at_.lt k) (fun e => by have e : k = g := e; have := HR3.out.gb.lt; omega)) HR3.out.env cg c1
                · exact with_anyN env' hx2000 s HOKs i HII.out _ (Both X1 (Is g)) _ g y [] (fun k hk => hk.elim (HR3.out.at_.lt k) (fun e => by have e : k = g := e; have := HR3.out.gb.lt; show k < W5.heap.size; omega)) HR3.out.env.drew cg c1)
              have HA := Lib.hid (show ∀ wq, W5 = wq ∨ W5.drew = wq → ∀ wz, Below wq.heap.size wq wz → SNn base d F S y g [.int .i64 7, .string s, .int .i64 k1, .int .i64 n1, .string s1, .slice A1 m1 p1, .int .i64 k2, .int .i64 n2, .string s2, .slice A2 m2 p2, .slice A3 body.length p3, .slice A4 els.length p4] a b (exV k1 n1 s1 (.slice A1 m1 p1)) (exV k2 n2 s2 (.slice A2 m2 p2)) body els (.slice A3 body.length p3) (.slice A4 els.length p4) w X wz X1 e mm.step (M0 ++ flatL xx) env' (.slice Ae env'.length ce) ∧ Same2 y y W5 wz from fun wq hq wz hb => by
                have hb2 : Below W5.heap.size W5 wz := by
                  rcases hq with rfl | rfl
                  · exact hb
                  · exact (Below.refl _ _).drew.trans hb
                have hl := HR3.out.rn.bd.lt
                exact ⟨HR3.out.below hb2, fun p hp => hb2.cell (by rw [hp.elim id id]; exact hl)⟩)
              have HBL := Lib.hid (show ∀ w3 v3 r, SNn base d F S y g [.int .i64 7, .string s, .int .i64 k1, .int .i64 n1, .string s1, .slice A1 m1 p1, .int .i64 k2, .int .i64 n2, .string s2, .slice A2 m2 p2, .slice A3 body.length p3, .slice A4 els.length p4] a b (exV k1 n1 s1 (.slice A1 m1 p1)) (exV k2 n2 s2 (.slice A2 m2 p2)) body els (.slice A3 body.length p3) (.slice A4 els.length p4) w X w3 X1 e mm.step (M0 ++ flatL xx) env' (.slice Ae env'.length ce) → FrX (Both X1 (Is g)) w3 (env' ++ [⟨s, i⟩]) v3 → blN F body (env' ++ [⟨s, i⟩]) N0 mm.step = r → Calls Try.prog 28 #[.pointer (some ⟨d, 0, none⟩), .slice A3 body.length p3, vI (N0 : Int), v3, vI (F : Int)] w3 (OutN base d F e w3 X1 (M0 ++ flatL xx) r) from fun w3 v3 r h hfx hr =>
                HIB.out.1 base w3 d X1 e mm.step (M0 ++ flatL xx) _ N0 S _ _ h.at_ HS.out h.rn.r1 (hfx.fewer (fun k hk => .inl hk)) (by simp only [List.length_append, List.length_singleton, US.step]; omega) (by omega) hx3 r hr)
              have hyl5 : y < W5.heap.size := HR3.out.rn.bd.lt
              cases hrb : blN F body (env' ++ [⟨s, i⟩]) N0 mm.step with
              | none =>
                have HN' := Lib.hid (show rf = none from by have := HGO.out; rw [hrb] at this; exact this.symm)
                go_region_held3 (fun w' => Same2 y y W5 w') (first | assumption | exact Same2.refl _ _ _ | exact Same2.drew (Same2.refl _ _ _))
                  (first
                    | ((go_at_call 50; refine (HWC.out _ (by first | exact .inl rfl | exact .inr rfl)).mono ?_; rintro e wz ⟨⟨u, rfl, hfx⟩, hb⟩; obtain ⟨Ax, cx, rfl, _⟩ := hfx.form; simp only [List.length_append, List.length_singleton] at hfx; obtain ⟨hr3, hs3⟩ := HA.out _ (by first | exact .inl rfl | exact .inr rfl) wz hb))
                    | ((go_at_call 28; refine (HBL.out wz _ _ hr3 hfx hrb).mono ?_; rintro en w4 ⟨rfl, ⟨X4, hE, hs4⟩, hb4⟩; have hbx := hr3.but.transNew' hb4 hr3.sub; have hsx := Sub.plusTrans hr3.sub hs4 hr3.but.size hb4.size; have hs5 : Same2 y y W5 w4 := hs3.trans (fun p hp => SNn.same2 hr3 hb4 p (.inl (hp.elim id id))))))
                all_goals (have HBB := Lib.hid hbx)
                all_goals (have HEB := Lib.hid (show ∃ X1, NnEnd base w4 d X1 F e ∧ Sub X1 (Plus X w.heap.size w4.heap.size) from ⟨X4, hE, hsx⟩))
                all_goals (clear hbx hE hsx hr3 hs3 hs5 hs4 hb4 hb hfx hrb HBL HA HWC)
                all_goals (try go_wp2_with fail)
                all_goals go_roundw
                all_goals first
                  | exact ⟨i + 1, n0, by go_num, by omega, by omega, .inr ⟨rfl, HN', HEB, HBB⟩⟩
                  | (simp [intOf]; omega)
              | some y4 =>
                obtain ⟨x4, m4⟩ := y4
                have HGM := Lib.hid (show (loopN F vb (fun i m => blN F body (env' ++ [⟨s, i⟩]) N0 m) n0 (i + 1) m4).map (fun y => ((xx ++ x4) ++ y.1, y.2)) = rf from by
                  have := HGO.out
                  rw [hrb] at this
                  simpa [Option.map_map, Function.comp_def, List.append_assoc] using this)
                have hst6 : mm.st + 1 ≤ m4.st := (blN_len _ _ _ _ _ _ hrb).2.1
                go_region_held3 (fun w' => Same2 y y W5 w') (first | assumption | exact Same2.refl _ _ _ | exact Same2.drew (Same2.refl _ _ _))
                  (first
                    | ((go_at_call 50; refine (HWC.out _ (by first | exact .inl rfl | exact .inr rfl)).mono ?_; rintro e wz ⟨⟨u, rfl, hfx⟩, hb⟩; obtain ⟨Ax, cx, rfl, _⟩ := hfx.form; simp only [List.length_append, List.length_singleton] at hfx; obtain ⟨hr3, hs3⟩ := HA.out _ (by first | exact .inl rfl | exact .inr rfl) wz hb))
                    | ((go_at_call 28; refine (HBL.out wz _ _ hr3 hfx hrb).mono ?_; rintro en w4 ⟨rfl, ⟨X4, ha, hs4⟩, hb4⟩; have hr4 := hr3.step hb4 ha hs4; have hs5 : Same2 y y W5 w4 := hs3.trans (fun p hp => SNn.same2 hr3 hb4 p (.inl (hp.elim id id))))))
                all_goals (have HR4 := Lib.hid hr4)
                all_goals (clear hr4 hr3 hs3 hs5 ha hs4 hb4 hb hfx hrb HBL HA HWC)
                all_goals (try go_wp2_with fail)
                all_goals go_roundw
                all_goals first
                  | exact ⟨i + 1, n0, by go_num, by omega, by omega, .inl ⟨m4, xx ++ x4, X4, rfl, by omega, by omega, HGM, by rw [flatL_app, ← List.append_assoc]; exact HR4⟩⟩
                  | (simp [intOf]; omega)
    · have e : q = l.length := by omega
      subst e
      have hr := HRES.out
      rw [List.drop_length, blN_nil] at hr
      have HRR := Lib.hid hr.symm
      clear hlt hr
      go_wp2
      go_ret
      rw [HRR.out]
      exact ⟨rfl, ⟨X', by simpa using HK.out, HSb.out⟩, HB.out⟩
end Go.Proofs.Ytdelngmbpjgphaa
