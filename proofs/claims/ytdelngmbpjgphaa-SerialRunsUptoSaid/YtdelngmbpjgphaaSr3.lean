/- The walk of the runner's block. -/
import Derived.Test.YtdelngmbpjgphaaGEx6
import Derived.RegionDies
namespace Go.Proofs.Ytdelngmbpjgphaa
open Go.RowKit
set_option linter.unusedVariables false
/-- what a run of the runner comes to -/
def OutB (base d F : Nat) (w : World) (X : Blocks) : Option MS → Ending → World → Prop
  | some m', e, w' => e = .returned (.tuple #[]) ∧ (∃ X', RnAt base w' d X' F m' ∧ Sub X' (Plus X w.heap.size w'.heap.size)) ∧ But X w w'
  | none, e, w' => e = .panicked spentE ∧ But X w w'
abbrev SameAt (y : Nat) (w1 w' : World) : Prop := ∀ p : Addr, p.block = y → w'.cell? p = w1.cell? p
theorem SameAt.refl (y : Nat) (w : World) : SameAt y w w := fun _ _ => rfl
theorem SameAt.drew {y : Nat} {w w' : World} (h : SameAt y w w') : SameAt y w w'.drew := h
theorem SameAt.set {y d o : Nat} {w w' : World} (hyd : y ≠ d) (h : SameAt y w w') (u : Value) : SameAt y w (w'.setCell ⟨d, o, none⟩ u) := fun p hp => (World.cell?_setCell_other w' ⟨d, o, none⟩ p u (fun e => hyd (by rw [← hp, ← e]))).trans (h p hp)
theorem SameAt.trans {y : Nat} {a b c : World} (h : SameAt y a b) (k : SameAt y b c) : SameAt y a c := fun p hp => (k p hp).trans (h p hp)
theorem SRn.sameAt {base d F y : Nat} {S X0 X : Blocks} {cs : List Value} {a b : Ex} {VA VB : Value} {body els : List St} {v1 v2 : Value} {w0 W W' : World} {m : MS} {env : List Bd} {ve : Value}
    (h : SRn base d F S y cs a b VA VB body els v1 v2 w0 X0 W X m env ve) (hb : But X W W') : SameAt y W W' := fun p hp => World.cell?_of_block (hb.block _ (by rw [hp]; exact h.rn.bd.lt) (by rw [hp]; exact h.nd))
def PBk (F : Nat) (l : List St) : Prop := ∀ (base : Nat) (w : World) (d : Nat) (X : Blocks) (m : MS) (env : List Bd) (lab : Nat) (S : Blocks) (v ve : Value), RnAt base w d X F m → Sub S (Upto base) → RdSts w S l v → FrX X w env ve → env.length ≤ m.st → lab + labelsL l ≤ 1048576 → St.wts l ≤ 1048576 →
  ∀ r, blR F l env lab m = r → Calls Try.prog 53 #[.pointer (some ⟨d, 0, none⟩), v, ve, vI (lab : Int)] w (OutB base d F w X r)
def PLp (F : Nat) (s : ByteArray) (a b : Ex) (body els : List St) : Prop := ∀ (base : Nat) (w : World) (d : Nat) (X : Blocks) (m : MS) (env : List Bd) (lab : Nat) (S : Blocks) (ve : Value) (k1 n1 : Int) (s1 : ByteArray) (A1 : Option Addr) (m1 p1 : Nat) (k2 n2 : Int) (s2 : ByteArray) (A2 : Option Addr) (m2 p2 : Nat) (A3 : Option Addr) (p3 : Nat) (A4 : Option Addr) (p4 : Nat),
  RnAt base w d X F m → Sub S (Upto base) → s.size ≤ 140737488355328 → RdE w S a (exV k1 n1 s1 (.slice A1 m1 p1)) → RdE w S b (exV k2 n2 s2 (.slice A2 m2 p2)) → RdSts w S body (.slice A3 body.length p3) → FrX X w env ve → env.length < m.st → lab + labelsL body ≤ 1048576 → St.wts body ≤ 1048576 →
  ∀ r, forR F (b.worth env) (fun i m => blR F body (env ++ [⟨s, i⟩]) lab m) (F + 1) (a.worth env) m = r →
  Calls Try.prog 67 #[.pointer (some ⟨d, 0, none⟩), .agg #[.int .i64 7, .string s, .int .i64 k1, .int .i64 n1, .string s1, .slice A1 m1 p1, .int .i64 k2, .int .i64 n2, .string s2, .slice A2 m2 p2, .slice A3 body.length p3, .slice A4 els.length p4], ve, vI (lab : Int)] w (OutB base d F w X r)
theorem RnAt.lt {base : Nat} {w : World} {d : Nat} {X : Blocks} {F : Nat} {m : MS} (h : RnAt base w d X F m) : ∀ k, X k → k < w.heap.size := fun k hk => (h.1.bd k hk).2
set_option maxHeartbeats 8000000 in
set_option maxRecDepth 100000 in
theorem block_one (F : Nat) (l : List St) (h : ∀ k s a b body els, St.mk k s a b body els ∈ l → PBk F body ∧ PBk F els ∧ PLp F s a b body els) : PBk F l := by
  intro base w d X m env lab S v ve hat hS r hfx hel hlab hwl res hres
  obtain ⟨i0, hi, hz0, hz1', hz2⟩ := info_parts infoBd
  obtain ⟨A, cap, rfl, hl, hcm, hby⟩ := r.form
  unfold maxLen at hcm
  have H := Lib.hid h
  have R := Lib.hid r
  have HS := Lib.hid hS
  have hbs : base ≤ w.heap.size := by have := hat.1.bd d hat.1.X0; omega
  have HG0 := Lib.hid (fun k hk => (hat.1.bd k hk).1 : ∀ k, X k → base ≤ k)
  have HAT := Lib.hid hat
  have HFX := Lib.hid hfx
  have HRES0 := Lib.hid hres
  clear h r hS hat hfx hres
  go_enter Try.func53, Try.ntmps53
  go_wp2_with fail
  go_loopw [2, 3, 13] (fun ve lb t wr => ∃ q : Nat, q ≤ l.length ∧ t = .int .i64 q ∧ ∃ (env' : List Bd) (m' : MS) (X' : Blocks), lb = vI ((lab + labelsL (l.take q) : Nat) : Int) ∧ Hid (RnAt base wr d X' F m') ∧ Hid (FrX X' wr env' ve) ∧ env'.length ≤ m'.st ∧ Hid (But X w wr) ∧ Hid (Sub X' (Plus X w.heap.size wr.heap.size)) ∧ Hid (blR F (l.drop q) env' (lab + labelsL (l.take q)) m' = res)) (fun _ _ t _ => l.length - (intOf t).toNat)
  case atStart => exact ⟨0, by omega, rfl, env, m, X, by rw [List.take_zero, labelsL]; rfl, HAT, HFX, hel, Lib.hid (But.refl _ _), Lib.hid (Sub.plus _ _ _), Lib.hid (by rw [List.take_zero, labelsL, List.drop_zero]; exact HRES0.out)⟩
  case round =>
    clear HAT HFX HRES0 hel
    obtain ⟨q, hq, rfl, env', m', X', rfl, HK, HF, hel, HB, HSb, HRES⟩ := hrel
    obtain ⟨Ae, ce, rfl, hce1, hce2⟩ := HF.out.form
    by_cases hlt : q < l.length
    · have hsame : Same S w wr := HB.out.same (HS.out.trans (Sub.upto hbs)) (fun k hk ht => by have := HG0.out k ht; have := HS.out k hk; unfold Upto at this; omega)
      obtain ⟨b0, off, cs, rfl, hb, hcl, hcell, hrd⟩ := (R.out.keep RdSt.keeps (Sub.refl _) hsame).at_ hlt
      have hb : b0 < base := HS.out _ hb
      have hbr : base ≤ wr.heap.size := Nat.le_trans hbs HB.out.size
      have hb0 : b0 < wr.heap.size := by omega
      have hmem := List.getElem_mem hlt
      have htk : l.take (q + 1) = l.take q ++ [l[q]] := by rw [List.take_succ_eq_append_getElem hlt]
      have hwq := wts_take l hlt
      have hltake : labelsL (l.take (q + 1)) ≤ labelsL l := labelsL_take l (q + 1)
      have hdr := HRES.out
      rw [blR_drop F l hlt] at hdr
      obtain ⟨st, hst⟩ : ∃ st, l[q] = st := ⟨_, rfl⟩
      rw [hst] at hrd hmem htk hwq hdr
      obtain ⟨k, s, a, b, body, els⟩ := st
      have hrs := hrd
      obtain ⟨k1, n1, s1, A1, m1, p1, k2, n2, s2, A2, m2, p2, A3, p3, A4, p4, rfl, hk, hs, ra, rb, rv, rv'⟩ := hrd.cells
      have e0 : wr.cell? ⟨b0, off + q * 12, none⟩ = some _ := hcell 0 _ rfl
      have e1 : wr.cell? ⟨b0, off + q * 12 + 1, none⟩ = some _ := hcell 1 _ rfl; have e2 : wr.cell? ⟨b0, off + q * 12 + 2, none⟩ = some _ := hcell 2 _ rfl; have e3 : wr.cell? ⟨b0, off + q * 12 + 3, none⟩ = some _ := hcell 3 _ rfl; have e4 : wr.cell? ⟨b0, off + q * 12 + 4, none⟩ = some _ := hcell 4 _ rfl; have e5 : wr.cell? ⟨b0, off + q * 12 + 5, none⟩ = some _ := hcell 5 _ rfl; have e6 : wr.cell? ⟨b0, off + q * 12 + 6, none⟩ = some _ := hcell 6 _ rfl; have e7 : wr.cell? ⟨b0, off + q * 12 + 7, none⟩ = some _ := hcell 7 _ rfl; have e8 : wr.cell? ⟨b0, off + q * 12 + 8, none⟩ = some _ := hcell 8 _ rfl; have e9 : wr.cell? ⟨b0, off + q * 12 + 9, none⟩ = some _ := hcell 9 _ rfl; have e10 : wr.cell? ⟨b0, off + q * 12 + 10, none⟩ = some _ := hcell 10 _ rfl; have e11 : wr.cell? ⟨b0, off + q * 12 + 11, none⟩ = some _ := hcell 11 _ rfl
      have hlabn : labelsL (l.take (q + 1)) = labelsL (l.take q) + labelsS (.mk k s a b body els) := by rw [htk, labelsL_snoc]
      have hlab1 : labelsL [St.mk k s a b body els] = labelsS (.mk k s a b body els) := by simp [labelsL]
      have hlb1 : lab + labelsL (l.take q) + labelsL [St.mk k s a b body els] ≤ 1048576 := by omega
      have HLN := Lib.hid (show lab + labelsL (l.take (q + 1)) = lab + labelsL (l.take q) + labelsL [St.mk k s a b body els] by omega)
      have HDR := Lib.hid (show (stR F (.mk k s a b body els) env' (lab + labelsL (l.take q)) m').bind (fun x => blR F (l.drop (q + 1)) x.2 (lab + labelsL (l.take q) + labelsL [St.mk k s a b body els]) x.1) = res by rw [hlab1]; exact hdr)
      have hlbb : labelsS (.mk k s a b body els) = labelsL [St.mk k s a b body els] := hlab1.symm
      have hw1 : St.wts [St.mk k s a b body els] ≤ 1048576 := by have : St.wts [St.mk k s a b body els] = St.wt (.mk k s a b body els) := by simp [St.wts]
                                                                 omega
      rw [St.wt] at hwq
      have HOKs : s.size ≤ 140737488355328 := hs
      have HIB := Lib.hid (H.out _ _ _ _ _ _ hmem)
      have rva : RdE wr S a (exV k1 n1 s1 (.slice A1 m1 p1)) := RdEx.toE ra
      have rvb : RdE wr S b (exV k2 n2 s2 (.slice A2 m2 p2)) := RdEx.toE rb
      have hx3 : St.wts body ≤ 1048576 := by omega
      have hx4 : St.wts els ≤ 1048576 := by omega
      clear hwq hst htk hlabn hlab1 hdr hltake
      have hbel : Below wr.heap.size wr (wr.alloc (.cells #[.int .i64 k, .string s, .int .i64 k1, .int .i64 n1, .string s1, .slice A1 m1 p1, .int .i64 k2, .int .i64 n2, .string s2, .slice A2 m2 p2, .slice A3 body.length p3, .slice A4 els.length p4] 112)) := (Below.refl _ _).alloc (Nat.le_refl _) _
      have hsu : Sub S (Upto wr.heap.size) := HS.out.trans (Sub.upto hbr)
      have hrw : SRn base d F S wr.heap.size [.int .i64 k, .string s, .int .i64 k1, .int .i64 n1, .string s1, .slice A1 m1 p1, .int .i64 k2, .int .i64 n2, .string s2, .slice A2 m2 p2, .slice A3 body.length p3, .slice A4 els.length p4] a b (exV k1 n1 s1 (.slice A1 m1 p1)) (exV k2 n2 s2 (.slice A2 m2 p2)) body els (.slice A3 body.length p3) (.slice A4 els.length p4) w X (wr.alloc (.cells #[.int .i64 k, .string s, .int .i64 k1, .int .i64 n1, .string s1, .slice A1 m1 p1, .int .i64 k2, .int .i64 n2, .string s2, .slice A2 m2 p2, .slice A3 body.length p3, .slice A4 els.length p4] 112)) X' m' env' (.slice Ae env'.length ce) :=
        ⟨⟨HK.out.1.below hbel, HK.out.2⟩, HF.out.below hbel, ⟨Blk.made wr _ 112 hbr, rva.go hbel hsu, rvb.go hbel hsu, rv.go RdSt.keeps hbel hsu (Sub.refl _), rv'.go RdSt.keeps hbel hsu (Sub.refl _)⟩, fun e => by have := HK.out.lt _ e; omega, HB.out.trans (But.of_below hbel), fun k hk => (HSb.out k hk).imp id (fun e => ⟨e.1, Nat.lt_of_lt_of_le e.2 hbel.size⟩), HS.out⟩
      have HRS := Lib.hid hrs
      go_upto_region 3 with (fail)
      clear e0 e1 e2 e3 e4 e5 e6 e7 e8 e9 e10 e11 hcell hrd hcl ra rb rv rv' rva rvb hbel hsu hmem hrs
      have hwz0 : wr.heap.size < ((wr.alloc (.cells #[.int .i64 k, .string s, .int .i64 k1, .int .i64 n1, .string s1, .slice A1 m1 p1, .int .i64 k2, .int .i64 n2, .string s2, .slice A2 m2 p2, .slice A3 body.length p3, .slice A4 els.length p4] 112))).heap.size := by simp
      have HSM := Lib.hid hsame
      have hb00 : b0 < base := hb
      generalize (wr.alloc (.cells #[.int .i64 k, .string s, .int .i64 k1, .int .i64 n1, .string s1, .slice A1 m1 p1, .int .i64 k2, .int .i64 n2, .string s2, .slice A2 m2 p2, .slice A3 body.length p3, .slice A4 els.length p4] 112)) = W at *
      obtain ⟨y, hy⟩ : ∃ y, y = wr.heap.size := ⟨_, rfl⟩
      rw [← hy] at hrw hwz0
      rw [← hy]
      have HR0 := Lib.hid hrw
      have c0 := hrw.rn.bd.cell 0 _ rfl; have c1 := hrw.rn.bd.cell 1 _ rfl; have c2 := hrw.rn.bd.cell 2 _ rfl; have c3 := hrw.rn.bd.cell 3 _ rfl; have c4 := hrw.rn.bd.cell 4 _ rfl; have c5 := hrw.rn.bd.cell 5 _ rfl; have c6 := hrw.rn.bd.cell 6 _ rfl; have c7 := hrw.rn.bd.cell 7 _ rfl; have c8 := hrw.rn.bd.cell 8 _ rfl; have c9 := hrw.rn.bd.cell 9 _ rfl; have c10 := hrw.rn.bd.cell 10 _ rfl; have c11 := hrw.rn.bd.cell 11 _ rfl
      generalize hN0 : lab + labelsL (l.take q) = N0 at *
      obtain ⟨N1, hN1⟩ : ∃ N1, N1 = labelsL [St.mk k s a b body els] := ⟨_, rfl⟩
      rw [← hN1] at HLN HDR hlb1 hlbb
      have HN1 := Lib.hid hN1
      clear hrw HB HSb HF HK hy hb hb0 hN0 HRES hN1 hsame
      by_cases hk0 : k < 1 ∨ 7 < k
      · skip
        have HRN := Lib.hid (by have := HDR.out; rw [stR_other hk0] at this; exact this : blR F (l.drop (q + 1)) env' (N0 + N1) m' = res)
        have hk1 : (k == 1) = false := by simp; omega
        have hk2 : (k == 2) = false := by simp; omega
        have hk3 : (k == 3) = false := by simp; omega
        have hk4 : (k == 4) = false := by simp; omega
        have hk5 : (k == 5) = false := by simp; omega
        have hk6 : (k == 6) = false := by simp; omega
        have hk7 : (k == 7) = false := by simp; omega
        go_upto_region 26 with (fail)
        clear c0 c1 c2 c3 c4 c5 c6 c7 c8 c9 c10 c11
        have c0 := HR0.out.rn.bd.cell 0 _ rfl; have c1 := HR0.out.rn.bd.cell 1 _ rfl; have c2 := HR0.out.rn.bd.cell 2 _ rfl; have c3 := HR0.out.rn.bd.cell 3 _ rfl; have c4 := HR0.out.rn.bd.cell 4 _ rfl; have c5 := HR0.out.rn.bd.cell 5 _ rfl; have c6 := HR0.out.rn.bd.cell 6 _ rfl; have c7 := HR0.out.rn.bd.cell 7 _ rfl; have c8 := HR0.out.rn.bd.cell 8 _ rfl; have c9 := HR0.out.rn.bd.cell 9 _ rfl; have c10 := HR0.out.rn.bd.cell 10 _ rfl; have c11 := HR0.out.rn.bd.cell 11 _ rfl
        have HSN0 := Lib.hid (SRn.same HR0.out HG0.out hbs HSM.out)
        have hld0 := HR0.out.rn.bd.lt
        have hwl1 := i64_2 (show N0 + N1 ≤ 1048577 by omega)
        have hwl2 := w64_2 (show N0 + N1 ≤ 1048577 by omega)
        go_wp2_with fail
        refine (labelsOf_one HRS.out HSN0.out HR0.out.sW rfl hw1 rfl).mono ?_
        rintro e wl ⟨rfl, hbl⟩
        rw [← HN1.out]
        have HRL := Lib.hid (HR0.out.below hbl)
        clear c0 c1 c2 c3 c4 c5 c6 c7 c8 c9 c10 c11 hbl hld0
        go_wp2_with fail
        go_roundw
        case rel => exact ⟨q + 1, by omega, by go_num, env', _, _, by rw [HLN.out, Int.natCast_add], Lib.hid HRL.out.at_, Lib.hid HRL.out.env, hel, Lib.hid HRL.out.but, Lib.hid HRL.out.sub, Lib.hid (by rw [HLN.out]; exact HRN.out)⟩
        case measure => simp [intOf]; omega
      by_cases h1 : k = 1
      · subst h1
        by_cases hf : m'.st < F
        case neg =>
          have hrn : res = none := by
            have := HDR.out
            rw [stR_none (by omega) hf] at this
            exact this.symm
          subst hrn
          go_wp2_with fail
          refine (step_no HR0.out.at_ hf).mono ?_
          rintro e w' ⟨rfl, hb⟩
          have hbx := HR0.out.but.transNew' hb HR0.out.sub
          go_wp2_with fail
          exact ⟨rfl, rfl, hbx⟩
        go_wp2_with fail
        refine (step_ok HR0.out.at_ hf).mono ?_
        rintro e w1 ⟨rfl, ha, hb⟩
        have HR1 := Lib.hid (HR0.out.step hb ha (Sub.plus _ _ _))
        clear ha hb c0 c1 c2 c3 c4 c5 c6 c7 c8 c9 c10 c11
        have c0 := HR1.out.rn.bd.cell 0 _ rfl; have c1 := HR1.out.rn.bd.cell 1 _ rfl; have c2 := HR1.out.rn.bd.cell 2 _ rfl; have c3 := HR1.out.rn.bd.cell 3 _ rfl; have c4 := HR1.out.rn.bd.cell 4 _ rfl; have c5 := HR1.out.rn.bd.cell 5 _ rfl; have c6 := HR1.out.rn.bd.cell 6 _ rfl; have c7 := HR1.out.rn.bd.cell 7 _ rfl; have c8 := HR1.out.rn.bd.cell 8 _ rfl; have c9 := HR1.out.rn.bd.cell 9 _ rfl; have c10 := HR1.out.rn.bd.cell 10 _ rfl; have c11 := HR1.out.rn.bd.cell 11 _ rfl
        have hel1 : env'.length < m'.step.st := by simp only [MS.step]; omega
        have HK1 := Lib.hid (show m'.tr.length ≤ m'.st from HR0.out.at_.2.1)
        have HRN := Lib.hid (by have := HDR.out; rw [stR_let hf] at this; exact this : blR F (l.drop (q + 1)) (env' ++ [⟨s, a.worth env'⟩]) (N0 + N1) m'.step = res)
        have hlY : y < w1.heap.size := HR1.out.rn.bd.lt
        have HWP := Lib.hid (fun w' h => Stay.size h : ∀ w', Stay w1 w' → w1.heap.size ≤ w'.heap.size)
        have HST := Lib.hid (fun w' h => HR1.out.below (Stay.below h) : ∀ w', Stay w1 w' → SRn base d F S y [.int .i64 1, .string s, .int .i64 k1, .int .i64 n1, .string s1, .slice A1 m1 p1, .int .i64 k2, .int .i64 n2, .string s2, .slice A2 m2 p2, .slice A3 body.length p3, .slice A4 els.length p4] a b (exV k1 n1 s1 (.slice A1 m1 p1)) (exV k2 n2 s2 (.slice A2 m2 p2)) body els (.slice A3 body.length p3) (.slice A4 els.length p4) w X w' X' m'.step env' (.slice Ae env'.length ce))
        have hFe := HR1.out.at_.2.1
        have hst2 := HR1.out.at_.2.2.1
        have hst3 := HR1.out.at_.2.2.2
        have mb1 : (env'.length + 1) * 24 ≤ 140737488355328 := by omega
        have mb2 : env'.length + 1 ≤ maxLen := by unfold maxLen; omega
        have HXL := Lib.hid (fun k hk => HR1.out.at_.lt k hk : ∀ k, X' k → k < w1.heap.size)
        have LEN := Lib.hid (show ∀ z, (env' ++ [(⟨s, z⟩ : Bd)]).length ≤ 2001 from fun z => by simp; omega)
        go_upto_region 6 with (fail)
        go_region_held3 (fun w' => Stay w1 w') (first | assumption | exact Stay.mk (Kept.start _) | ((refine Stay.mk ?_; (repeat (with_reducible first | refine Kept.set ?_ (by omega) _ | refine Kept.drew ?_ | refine Kept.alloc ?_ _)); first | exact Kept.refl _ | assumption)))
          (first
            | ((go_at_call 61; refine (clip_any Ae env'.length ce hce1 hce2 _).mono ?_; rintro e wc ⟨rfl, rfl⟩))
            | ((go_at_call 42; refine (eval_fx env' a _ S X' _ _ (HST.out _ (by first | assumption | exact Stay.mk (Kept.start _))).sW (HST.out _ (by first | assumption | exact Stay.mk (Kept.start _))).rn.ra (HST.out _ (by first | assumption | exact Stay.mk (Kept.start _))).env).mono ?_; rintro e wv ⟨rfl, hin, hb1⟩; have hst1 : Stay w1 wv := Stay.step hb1 (by first | assumption | exact Stay.mk (Kept.start _)); have hk1 : Kept w1 wv := Kept.here hst1))
            | ((refine step_append_full (by rfl) (.tmp 24) (.tmp 32) 106 (by rfl) (by rfl) (by rfl) ⟨s, a.worth env'⟩ i0 _ Try.underlying106 hi hz0 hz1' hz2 rfl (by decide) encBd_len oneBd ?_ ?_ ?_ mb1 mb2 ?_; exact (HST.out _ (by assumption)).env.clip.fr; exact ⟨HOKs, hin⟩; exact cells_newAt _ [_, _] _ rfl; intro v3 wf ho3 hbf; have hst2 : Stay w1 wf := Stay.of ((Stay.below (by assumption)).trans (hbf.mono (HWP.out _ (by assumption)))); have hk2 : Kept w1 wf := Kept.here hst2; have hf3 : FrX X' wf (env' ++ [⟨s, a.worth env'⟩]) v3 := FrX.own ho3 (LEN.out _) (fun k hk => Nat.lt_of_lt_of_le (HXL.out k hk) (HWP.out _ (by assumption))))))
        rename_i hheld
        clear hheld
        have HR2 := Lib.hid ((HST.out _ hst2).env_ hf3)
        have hel2 : (env' ++ [(⟨s, a.worth env'⟩ : Bd)]).length ≤ m'.step.st := by simp; omega
        try clear hst1
        try clear hst2
        try clear hk1
        try clear hk2
        try clear hf3
        try clear hbf
        try clear mb1
        try clear mb2
        clear HWP HST
        clear c0 c1 c2 c3 c4 c5 c6 c7 c8 c9 c10 c11
        have c0 := HR2.out.rn.bd.cell 0 _ rfl; have c1 := HR2.out.rn.bd.cell 1 _ rfl; have c2 := HR2.out.rn.bd.cell 2 _ rfl; have c3 := HR2.out.rn.bd.cell 3 _ rfl; have c4 := HR2.out.rn.bd.cell 4 _ rfl; have c5 := HR2.out.rn.bd.cell 5 _ rfl; have c6 := HR2.out.rn.bd.cell 6 _ rfl; have c7 := HR2.out.rn.bd.cell 7 _ rfl; have c8 := HR2.out.rn.bd.cell 8 _ rfl; have c9 := HR2.out.rn.bd.cell 9 _ rfl; have c10 := HR2.out.rn.bd.cell 10 _ rfl; have c11 := HR2.out.rn.bd.cell 11 _ rfl
        have HSN2 := Lib.hid (SRn.same HR2.out HG0.out hbs HSM.out)
        have hld2 := HR2.out.rn.bd.lt
        have hwl1 := i64_2 (show N0 + N1 ≤ 1048577 by omega)
        have hwl2 := w64_2 (show N0 + N1 ≤ 1048577 by omega)
        go_wp2_with fail
        refine (labelsOf_one HRS.out HSN2.out HR2.out.sW rfl hw1 rfl).mono ?_
        rintro e wl ⟨rfl, hbl⟩
        rw [← HN1.out]
        have HRL := Lib.hid (HR2.out.below hbl)
        clear c0 c1 c2 c3 c4 c5 c6 c7 c8 c9 c10 c11 hbl hld2
        go_wp2_with fail
        go_roundw
        case rel => exact ⟨q + 1, by omega, by go_num, (env' ++ [⟨s, a.worth env'⟩]), _, _, by rw [HLN.out, Int.natCast_add], Lib.hid HRL.out.at_, Lib.hid HRL.out.env, hel2, Lib.hid HRL.out.but, Lib.hid HRL.out.sub, Lib.hid (by rw [HLN.out]; exact HRN.out)⟩
        case measure => simp [intOf]; omega
      by_cases h2 : k = 2
      · subst h2
        by_cases hf : m'.st < F
        case neg =>
          have hrn : res = none := by
            have := HDR.out
            rw [stR_none (by omega) hf] at this
            exact this.symm
          subst hrn
          go_wp2_with fail
          refine (step_no HR0.out.at_ hf).mono ?_
          rintro e w' ⟨rfl, hb⟩
          have hbx := HR0.out.but.transNew' hb HR0.out.sub
          go_wp2_with fail
          exact ⟨rfl, rfl, hbx⟩
        go_wp2_with fail
        refine (step_ok HR0.out.at_ hf).mono ?_
        rintro e w1 ⟨rfl, ha, hb⟩
        have HR1 := Lib.hid (HR0.out.step hb ha (Sub.plus _ _ _))
        clear ha hb c0 c1 c2 c3 c4 c5 c6 c7 c8 c9 c10 c11
        have c0 := HR1.out.rn.bd.cell 0 _ rfl; have c1 := HR1.out.rn.bd.cell 1 _ rfl; have c2 := HR1.out.rn.bd.cell 2 _ rfl; have c3 := HR1.out.rn.bd.cell 3 _ rfl; have c4 := HR1.out.rn.bd.cell 4 _ rfl; have c5 := HR1.out.rn.bd.cell 5 _ rfl; have c6 := HR1.out.rn.bd.cell 6 _ rfl; have c7 := HR1.out.rn.bd.cell 7 _ rfl; have c8 := HR1.out.rn.bd.cell 8 _ rfl; have c9 := HR1.out.rn.bd.cell 9 _ rfl; have c10 := HR1.out.rn.bd.cell 10 _ rfl; have c11 := HR1.out.rn.bd.cell 11 _ rfl
        have hel1 : env'.length < m'.step.st := by simp only [MS.step]; omega
        have HK1 := Lib.hid (show m'.tr.length ≤ m'.st from HR0.out.at_.2.1)
        have HRN := Lib.hid (by have := HDR.out; rw [stR_load hf] at this; exact this : blR F (l.drop (q + 1)) (env' ++ [⟨s, m'.get (a.worth env')⟩]) (N0 + N1) (m'.step.see (a.worth env') false N0) = res)
        go_wp2_with fail
        refine (eval_fx env' a w1 S X' _ _ HR1.out.sW HR1.out.rn.ra HR1.out.env).mono ?_
        rintro e wv ⟨rfl, hin, hb1⟩
        have HR2 := Lib.hid (HR1.out.below hb1)
        have hFe := HR1.out.at_.2.1
        have hst2 := HR1.out.at_.2.2.1
        have hst3 := HR1.out.at_.2.2.2
        clear hb1
        go_wp2_with fail
        refine (access_any HR2.out.at_ (Nat.lt_of_le_of_lt HK1.out (Nat.lt_succ_self _)) (a.worth env') false N0 (by omega)).mono ?_
        rintro e w3 ⟨rfl, ⟨X3, ha, hs3⟩, hb⟩
        have HR3 := Lib.hid (HR2.out.step hb ha hs3)
        clear ha hs3 hb
        clear c0 c1 c2 c3 c4 c5 c6 c7 c8 c9 c10 c11
        have c0 := HR3.out.rn.bd.cell 0 _ rfl; have c1 := HR3.out.rn.bd.cell 1 _ rfl; have c2 := HR3.out.rn.bd.cell 2 _ rfl; have c3 := HR3.out.rn.bd.cell 3 _ rfl; have c4 := HR3.out.rn.bd.cell 4 _ rfl; have c5 := HR3.out.rn.bd.cell 5 _ rfl; have c6 := HR3.out.rn.bd.cell 6 _ rfl; have c7 := HR3.out.rn.bd.cell 7 _ rfl; have c8 := HR3.out.rn.bd.cell 8 _ rfl; have c9 := HR3.out.rn.bd.cell 9 _ rfl; have c10 := HR3.out.rn.bd.cell 10 _ rfl; have c11 := HR3.out.rn.bd.cell 11 _ rfl
        have hlY : y < w3.heap.size := HR3.out.rn.bd.lt
        have hlD : d < w3.heap.size := HR3.out.at_.lt d HR3.out.at_.1.X0
        have hcN : cellN (a.worth env') < 8 := cellN_lt _
        have hdc := HpAt.cell HR3.out.at_.1 hcN
        obtain ⟨v, hv⟩ : ∃ v, v = m'.get (a.worth env') := ⟨_, rfl⟩
        have hin2 : inI v := by rw [hv]; exact HpAt.in_ HR3.out.at_.1 _
        rw [show (MS.see m'.step (a.worth env') false N0).h.getD (cellN (a.worth env')) 0 = v from hv.symm] at hdc
        rw [← hv] at HRN
        have HV := Lib.hid hv
        obtain ⟨c, hc⟩ : ∃ c, c = cellN (a.worth env') := ⟨_, rfl⟩
        rw [← hc] at hdc hcN ⊢
        clear hc hv
        have hcI : (c : Int) < 8 := by omega
        have HWP := Lib.hid (fun w' h => Stay.size h : ∀ w', Stay w3 w' → w3.heap.size ≤ w'.heap.size)
        have HST := Lib.hid (fun w' h => HR3.out.below (Stay.below h) : ∀ w', Stay w3 w' → SRn base d F S y [.int .i64 2, .string s, .int .i64 k1, .int .i64 n1, .string s1, .slice A1 m1 p1, .int .i64 k2, .int .i64 n2, .string s2, .slice A2 m2 p2, .slice A3 body.length p3, .slice A4 els.length p4] a b (exV k1 n1 s1 (.slice A1 m1 p1)) (exV k2 n2 s2 (.slice A2 m2 p2)) body els (.slice A3 body.length p3) (.slice A4 els.length p4) w X w' X3 (m'.step.see (a.worth env') false N0) env' (.slice Ae env'.length ce))
        have mb1 : (env'.length + 1) * 24 ≤ 140737488355328 := by omega
        have mb2 : env'.length + 1 ≤ maxLen := by unfold maxLen; omega
        have HXL := Lib.hid (fun k hk => HR3.out.at_.lt k hk : ∀ k, X3 k → k < w3.heap.size)
        have LEN := Lib.hid (show ∀ z, (env' ++ [(⟨s, z⟩ : Bd)]).length ≤ 2001 from fun z => by simp; omega)
        go_upto_region 10 with (fail)
        go_region_held3 (fun w' => Stay w3 w') (first | assumption | exact Stay.mk (Kept.start _) | ((refine Stay.mk ?_; (repeat (with_reducible first | refine Kept.set ?_ (by omega) _ | refine Kept.drew ?_ | refine Kept.alloc ?_ _)); first | exact Kept.refl _ | assumption)))
          (first
            | ((go_at_call 61; refine (clip_any Ae env'.length ce hce1 hce2 _).mono ?_; rintro e wc ⟨rfl, rfl⟩))
            | ((refine step_append_full (by rfl) (.tmp 46) (.tmp 56) 106 (by rfl) (by rfl) (by rfl) ⟨s, v⟩ i0 _ Try.underlying106 hi hz0 hz1' hz2 rfl (by decide) encBd_len oneBd ?_ ?_ ?_ mb1 mb2 ?_; exact (HST.out _ (by assumption)).env.clip.fr; exact ⟨HOKs, hin2⟩; exact cells_newAt _ [_, _] _ rfl; intro v3 wf ho3 hbf; have hst2 : Stay w3 wf := Stay.of ((Stay.below (by assumption)).trans (hbf.mono (HWP.out _ (by assumption)))); have hk2 : Kept w3 wf := Kept.here hst2; have hf3 : FrX X3 wf (env' ++ [⟨s, v⟩]) v3 := FrX.own ho3 (LEN.out _) (fun k hk => Nat.lt_of_lt_of_le (HXL.out k hk) (HWP.out _ (by assumption))))))
        all_goals
          rename_i hheld
          clear hheld
          have HR4 := Lib.hid ((HST.out _ hst2).env_ hf3)
          have hel2 : (env' ++ [(⟨s, v⟩ : Bd)]).length ≤ (m'.step.see (a.worth env') false N0).st := by simp only [List.length_append, List.length_singleton, MS.see]; omega
          try clear hst2
          try clear hk2
          try clear hf3
          try clear hbf
          try clear mb1
          try clear mb2
          clear HWP HST hdc
          clear c0 c1 c2 c3 c4 c5 c6 c7 c8 c9 c10 c11
          have c0 := HR4.out.rn.bd.cell 0 _ rfl; have c1 := HR4.out.rn.bd.cell 1 _ rfl; have c2 := HR4.out.rn.bd.cell 2 _ rfl; have c3 := HR4.out.rn.bd.cell 3 _ rfl; have c4 := HR4.out.rn.bd.cell 4 _ rfl; have c5 := HR4.out.rn.bd.cell 5 _ rfl; have c6 := HR4.out.rn.bd.cell 6 _ rfl; have c7 := HR4.out.rn.bd.cell 7 _ rfl; have c8 := HR4.out.rn.bd.cell 8 _ rfl; have c9 := HR4.out.rn.bd.cell 9 _ rfl; have c10 := HR4.out.rn.bd.cell 10 _ rfl; have c11 := HR4.out.rn.bd.cell 11 _ rfl
          have HSN4 := Lib.hid (SRn.same HR4.out HG0.out hbs HSM.out)
          have hld4 := HR4.out.rn.bd.lt
          have hwl1 := i64_2 (show N0 + N1 ≤ 1048577 by omega)
          have hwl2 := w64_2 (show N0 + N1 ≤ 1048577 by omega)
          go_wp2_with fail
          refine (labelsOf_one HRS.out HSN4.out HR4.out.sW rfl hw1 rfl).mono ?_
          rintro e wl ⟨rfl, hbl⟩
          rw [← HN1.out]
          have HRL := Lib.hid (HR4.out.below hbl)
          clear c0 c1 c2 c3 c4 c5 c6 c7 c8 c9 c10 c11 hbl hld4
          go_wp2_with fail
          go_roundw
          case rel => exact ⟨q + 1, by omega, by go_num, (env' ++ [⟨s, v⟩]), _, _, by rw [HLN.out, Int.natCast_add], Lib.hid HRL.out.at_, Lib.hid HRL.out.env, hel2, Lib.hid HRL.out.but, Lib.hid HRL.out.sub, Lib.hid (by rw [HLN.out]; exact HRN.out)⟩
          case measure => simp [intOf]; omega
      by_cases h3 : k = 3
      · subst h3
        by_cases hf : m'.st < F
        case neg =>
          have hrn : res = none := by
            have := HDR.out
            rw [stR_none (by omega) hf] at this
            exact this.symm
          subst hrn
          go_wp2_with fail
          refine (step_no HR0.out.at_ hf).mono ?_
          rintro e w' ⟨rfl, hb⟩
          have hbx := HR0.out.but.transNew' hb HR0.out.sub
          go_wp2_with fail
          exact ⟨rfl, rfl, hbx⟩
        go_wp2_with fail
        refine (step_ok HR0.out.at_ hf).mono ?_
        rintro e w1 ⟨rfl, ha, hb⟩
        have HR1 := Lib.hid (HR0.out.step hb ha (Sub.plus _ _ _))
        clear ha hb c0 c1 c2 c3 c4 c5 c6 c7 c8 c9 c10 c11
        have c0 := HR1.out.rn.bd.cell 0 _ rfl; have c1 := HR1.out.rn.bd.cell 1 _ rfl; have c2 := HR1.out.rn.bd.cell 2 _ rfl; have c3 := HR1.out.rn.bd.cell 3 _ rfl; have c4 := HR1.out.rn.bd.cell 4 _ rfl; have c5 := HR1.out.rn.bd.cell 5 _ rfl; have c6 := HR1.out.rn.bd.cell 6 _ rfl; have c7 := HR1.out.rn.bd.cell 7 _ rfl; have c8 := HR1.out.rn.bd.cell 8 _ rfl; have c9 := HR1.out.rn.bd.cell 9 _ rfl; have c10 := HR1.out.rn.bd.cell 10 _ rfl; have c11 := HR1.out.rn.bd.cell 11 _ rfl
        have hel1 : env'.length < m'.step.st := by simp only [MS.step]; omega
        have HK1 := Lib.hid (show m'.tr.length ≤ m'.st from HR0.out.at_.2.1)
        have HRN := Lib.hid (by have := HDR.out; rw [stR_store hf] at this; exact this : blR F (l.drop (q + 1)) env' (N0 + N1) ((m'.step.see (a.worth env') true N0).put (a.worth env') (b.worth env')) = res)
        have HRd := Lib.hid (HR1.out.below ((Below.refl _ _).drew))
        have hyd : y ≠ d := fun e => HR1.out.nd (by rw [e]; exact HR1.out.at_.1.X0)
        have hcN : cellN (a.worth env') < 8 := cellN_lt _
        obtain ⟨c, hc⟩ : ∃ c, c = cellN (a.worth env') := ⟨_, rfl⟩
        have HC := Lib.hid hc
        rw [← hc] at hcN
        have hcI : (c : Int) < 8 := by omega
        clear hc
        have HK2 := Lib.hid (show m'.step.tr.length < m'.step.st from Nat.lt_of_le_of_lt HK1.out (Nat.lt_succ_self _))
        have HN0 := Lib.hid (show N0 ≤ 1048576 by omega)
        have HA := Lib.hid (show ∀ wv, Below w1.drew.heap.size w1.drew wv → SRn base d F S y [.int .i64 3, .string s, .int .i64 k1, .int .i64 n1, .string s1, .slice A1 m1 p1, .int .i64 k2, .int .i64 n2, .string s2, .slice A2 m2 p2, .slice A3 body.length p3, .slice A4 els.length p4] a b (exV k1 n1 s1 (.slice A1 m1 p1)) (exV k2 n2 s2 (.slice A2 m2 p2)) body els (.slice A3 body.length p3) (.slice A4 els.length p4) w X wv X' m'.step env' (.slice Ae env'.length ce) ∧ SameAt y w1 wv from fun wv hb => ⟨HRd.out.below hb, SameAt.trans (SameAt.drew (SameAt.refl y w1)) (SRn.sameAt HRd.out (But.of_below hb))⟩)
        have HB := Lib.hid (show ∀ (wv w3 : World) (X3 : Blocks), SRn base d F S y [.int .i64 3, .string s, .int .i64 k1, .int .i64 n1, .string s1, .slice A1 m1 p1, .int .i64 k2, .int .i64 n2, .string s2, .slice A2 m2 p2, .slice A3 body.length p3, .slice A4 els.length p4] a b (exV k1 n1 s1 (.slice A1 m1 p1)) (exV k2 n2 s2 (.slice A2 m2 p2)) body els (.slice A3 body.length p3) (.slice A4 els.length p4) w X wv X' m'.step env' (.slice Ae env'.length ce) → SameAt y w1 wv → But X' wv w3 → RnAt base w3 d X3 F (m'.step.see (a.worth env') true N0) → Sub X3 (Plus X' wv.heap.size w3.heap.size) → SRn base d F S y [.int .i64 3, .string s, .int .i64 k1, .int .i64 n1, .string s1, .slice A1 m1 p1, .int .i64 k2, .int .i64 n2, .string s2, .slice A2 m2 p2, .slice A3 body.length p3, .slice A4 els.length p4] a b (exV k1 n1 s1 (.slice A1 m1 p1)) (exV k2 n2 s2 (.slice A2 m2 p2)) body els (.slice A3 body.length p3) (.slice A4 els.length p4) w X w3 X3 (m'.step.see (a.worth env') true N0) env' (.slice Ae env'.length ce) ∧ SameAt y w1 w3 from fun wv w3 X3 h g hb ha hs => ⟨h.step hb ha hs, g.trans (SRn.sameAt h hb)⟩)
        have HD := Lib.hid (show ∀ (w3 wb : World) (X3 : Blocks), SRn base d F S y [.int .i64 3, .string s, .int .i64 k1, .int .i64 n1, .string s1, .slice A1 m1 p1, .int .i64 k2, .int .i64 n2, .string s2, .slice A2 m2 p2, .slice A3 body.length p3, .slice A4 els.length p4] a b (exV k1 n1 s1 (.slice A1 m1 p1)) (exV k2 n2 s2 (.slice A2 m2 p2)) body els (.slice A3 body.length p3) (.slice A4 els.length p4) w X w3 X3 (m'.step.see (a.worth env') true N0) env' (.slice Ae env'.length ce) → SameAt y w1 w3 → Below w3.heap.size w3 wb → SRn base d F S y [.int .i64 3, .string s, .int .i64 k1, .int .i64 n1, .string s1, .slice A1 m1 p1, .int .i64 k2, .int .i64 n2, .string s2, .slice A2 m2 p2, .slice A3 body.length p3, .slice A4 els.length p4] a b (exV k1 n1 s1 (.slice A1 m1 p1)) (exV k2 n2 s2 (.slice A2 m2 p2)) body els (.slice A3 body.length p3) (.slice A4 els.length p4) w X wb X3 (m'.step.see (a.worth env') true N0) env' (.slice Ae env'.length ce) ∧ SameAt y w1 wb ∧ wb.cell? ⟨d, c, none⟩ = some (vI ((m'.step.see (a.worth env') true N0).h.getD c 0)) ∧ wb.frozen? ⟨d, c, none⟩ = false from fun w3 wb X3 h g hb => ⟨h.below hb, g.trans (SRn.sameAt h (But.of_below hb)), HpAt.cell (h.below hb).at_.1 hcN, HpAt.fr (h.below hb).at_.1 c⟩)
        go_upto_region 13 with (fail)
        go_region_held3 (fun w' => SameAt y w1 w') (first | assumption | exact SameAt.refl _ _ | exact SameAt.drew (SameAt.refl _ _) | (refine SameAt.set hyd ?_ _; assumption))
          (first
            | ((go_at_call_of 42 (Value.agg #[.int .i64 k1, .int .i64 n1, .string s1, .slice A1 m1 p1]); refine (eval_fx env' a _ S X' _ _ HRd.out.sW HRd.out.rn.ra HRd.out.env).mono ?_; rintro e wv ⟨rfl, hin, hb1⟩; obtain ⟨hr2, hs2⟩ := HA.out wv hb1))
            | ((go_at_call 66; refine (access_any hr2.at_ HK2.out (a.worth env') true N0 HN0.out).mono ?_; rintro e w3 ⟨rfl, ⟨X3, ha, hs3⟩, hb⟩; obtain ⟨hr3, hs4⟩ := HB.out wv w3 X3 hr2 hs2 hb ha hs3; rw [← HC.out]))
            | ((go_at_call_of 42 (Value.agg #[.int .i64 k2, .int .i64 n2, .string s2, .slice A2 m2 p2]); refine (eval_fx env' b _ S X3 _ _ hr3.sW hr3.rn.rb hr3.env).mono ?_; rintro e wb ⟨rfl, hinb, hb2⟩; obtain ⟨hr4, hs5, hdc, hdf⟩ := HD.out w3 wb X3 hr3 hs4 hb2)))
        rename_i hheld
        clear hheld
        obtain ⟨p1, p2⟩ := HpAt.setHeap hr4.at_.1 hcN (b.worth env') hinb
        have hmm : HpAt base (wb.setCell ⟨d, c, none⟩ (vI (b.worth env'))) d X3 [vI (F : Int), vI ((((m'.step.see (a.worth env') true N0).put (a.worth env') (b.worth env')).st : Nat) : Int)] ((m'.step.see (a.worth env') true N0).put (a.worth env') (b.worth env')).h ((m'.step.see (a.worth env') true N0).put (a.worth env') (b.worth env')).tr := by
          simp only [MS.put]
          rw [← HC.out]
          exact p1
        have hat5 : RnAt base (wb.setCell ⟨d, c, none⟩ (vI (b.worth env'))) d X3 F ((m'.step.see (a.worth env') true N0).put (a.worth env') (b.worth env')) := ⟨hmm, hr4.at_.2⟩
        have HR5 := Lib.hid (SRn.step hr4 p2 hat5 (Sub.plus _ _ _))
        have hel2 : env'.length ≤ ((m'.step.see (a.worth env') true N0).put (a.worth env') (b.worth env')).st := by simp only [MS.see, MS.put]; omega
        clear p1 p2 hmm hat5 hdc hdf hs2 hs4 hs5 hr2 hr3 hr4 HA HB HD hb hb1 hb2 ha hs3
        generalize wb.setCell ⟨d, c, none⟩ (vI (b.worth env')) = wf at *
        clear c0 c1 c2 c3 c4 c5 c6 c7 c8 c9 c10 c11
        have c0 := HR5.out.rn.bd.cell 0 _ rfl; have c1 := HR5.out.rn.bd.cell 1 _ rfl; have c2 := HR5.out.rn.bd.cell 2 _ rfl; have c3 := HR5.out.rn.bd.cell 3 _ rfl; have c4 := HR5.out.rn.bd.cell 4 _ rfl; have c5 := HR5.out.rn.bd.cell 5 _ rfl; have c6 := HR5.out.rn.bd.cell 6 _ rfl; have c7 := HR5.out.rn.bd.cell 7 _ rfl; have c8 := HR5.out.rn.bd.cell 8 _ rfl; have c9 := HR5.out.rn.bd.cell 9 _ rfl; have c10 := HR5.out.rn.bd.cell 10 _ rfl; have c11 := HR5.out.rn.bd.cell 11 _ rfl
        have HSN5 := Lib.hid (SRn.same HR5.out HG0.out hbs HSM.out)
        have hld5 := HR5.out.rn.bd.lt
        have hwl1 := i64_2 (show N0 + N1 ≤ 1048577 by omega)
        have hwl2 := w64_2 (show N0 + N1 ≤ 1048577 by omega)
        go_wp2_with fail
        refine (labelsOf_one HRS.out HSN5.out HR5.out.sW rfl hw1 rfl).mono ?_
        rintro e wl ⟨rfl, hbl⟩
        rw [← HN1.out]
        have HRL := Lib.hid (HR5.out.below hbl)
        clear c0 c1 c2 c3 c4 c5 c6 c7 c8 c9 c10 c11 hbl hld5
        go_wp2_with fail
        go_roundw
        case rel => exact ⟨q + 1, by omega, by go_num, env', _, _, by rw [HLN.out, Int.natCast_add], Lib.hid HRL.out.at_, Lib.hid HRL.out.env, hel2, Lib.hid HRL.out.but, Lib.hid HRL.out.sub, Lib.hid (by rw [HLN.out]; exact HRN.out)⟩
        case measure => simp [intOf]; omega
      by_cases h4 : k = 4
      · subst h4
        by_cases hf : m'.st < F
        case neg =>
          have hrn : res = none := by
            have := HDR.out
            rw [stR_none (by omega) hf] at this
            exact this.symm
          subst hrn
          go_wp2_with fail
          refine (step_no HR0.out.at_ hf).mono ?_
          rintro e w' ⟨rfl, hb⟩
          have hbx := HR0.out.but.transNew' hb HR0.out.sub
          go_wp2_with fail
          exact ⟨rfl, rfl, hbx⟩
        go_wp2_with fail
        refine (step_ok HR0.out.at_ hf).mono ?_
        rintro e w1 ⟨rfl, ha, hb⟩
        have HR1 := Lib.hid (HR0.out.step hb ha (Sub.plus _ _ _))
        clear ha hb c0 c1 c2 c3 c4 c5 c6 c7 c8 c9 c10 c11
        have c0 := HR1.out.rn.bd.cell 0 _ rfl; have c1 := HR1.out.rn.bd.cell 1 _ rfl; have c2 := HR1.out.rn.bd.cell 2 _ rfl; have c3 := HR1.out.rn.bd.cell 3 _ rfl; have c4 := HR1.out.rn.bd.cell 4 _ rfl; have c5 := HR1.out.rn.bd.cell 5 _ rfl; have c6 := HR1.out.rn.bd.cell 6 _ rfl; have c7 := HR1.out.rn.bd.cell 7 _ rfl; have c8 := HR1.out.rn.bd.cell 8 _ rfl; have c9 := HR1.out.rn.bd.cell 9 _ rfl; have c10 := HR1.out.rn.bd.cell 10 _ rfl; have c11 := HR1.out.rn.bd.cell 11 _ rfl
        have hel1 : env'.length < m'.step.st := by simp only [MS.step]; omega
        have HK1 := Lib.hid (show m'.tr.length ≤ m'.st from HR0.out.at_.2.1)
        have hlb5 : labelsL body = N1 := by rw [← hlbb, labels_one (by omega)]
        cases hrb : blR F body env' N0 m'.step with
        | none =>
          have hrn : res = none := by
            have := HDR.out
            rw [stR_block (by omega) hf, hrb] at this
            exact this.symm
          subst hrn
          go_wp2_with fail
          refine (HIB.out.1 base w1 d X' m'.step env' N0 S _ _ HR1.out.at_ HS.out HR1.out.rn.r1 HR1.out.env (by omega) (by omega) hx3 _ hrb).mono ?_
          rintro e w' ⟨rfl, hb⟩
          have hbx := HR1.out.but.transNew' hb HR1.out.sub
          go_wp2_with fail
          exact ⟨rfl, rfl, hbx⟩
        | some mf =>
          have HRN := Lib.hid (by have := HDR.out; rw [stR_block (by omega) hf, hrb] at this; exact this : blR F (l.drop (q + 1)) env' (N0 + N1) mf = res)
          go_wp2_with fail
          refine (HIB.out.1 base w1 d X' m'.step env' N0 S _ _ HR1.out.at_ HS.out HR1.out.rn.r1 HR1.out.env (by omega) (by omega) hx3 _ hrb).mono ?_
          rintro e w4 ⟨rfl, ⟨X4, ha, hs4⟩, hb⟩
          have HR4 := Lib.hid (HR1.out.step hb ha hs4)
          have hel2 : env'.length ≤ mf.st := Nat.le_trans (Nat.le_of_lt hel1) (blR_mono F _ _ _ _ _ hrb)
          clear ha hs4 hb hrb
          clear c0 c1 c2 c3 c4 c5 c6 c7 c8 c9 c10 c11
          have c0 := HR4.out.rn.bd.cell 0 _ rfl; have c1 := HR4.out.rn.bd.cell 1 _ rfl; have c2 := HR4.out.rn.bd.cell 2 _ rfl; have c3 := HR4.out.rn.bd.cell 3 _ rfl; have c4 := HR4.out.rn.bd.cell 4 _ rfl; have c5 := HR4.out.rn.bd.cell 5 _ rfl; have c6 := HR4.out.rn.bd.cell 6 _ rfl; have c7 := HR4.out.rn.bd.cell 7 _ rfl; have c8 := HR4.out.rn.bd.cell 8 _ rfl; have c9 := HR4.out.rn.bd.cell 9 _ rfl; have c10 := HR4.out.rn.bd.cell 10 _ rfl; have c11 := HR4.out.rn.bd.cell 11 _ rfl
          have HSN4 := Lib.hid (SRn.same HR4.out HG0.out hbs HSM.out)
          have hld4 := HR4.out.rn.bd.lt
          have hwl1 := i64_2 (show N0 + N1 ≤ 1048577 by omega)
          have hwl2 := w64_2 (show N0 + N1 ≤ 1048577 by omega)
          go_wp2_with fail
          refine (labelsOf_one HRS.out HSN4.out HR4.out.sW rfl hw1 rfl).mono ?_
          rintro e wl ⟨rfl, hbl⟩
          rw [← HN1.out]
          have HRL := Lib.hid (HR4.out.below hbl)
          clear c0 c1 c2 c3 c4 c5 c6 c7 c8 c9 c10 c11 hbl hld4
          go_wp2_with fail
          go_roundw
          case rel => exact ⟨q + 1, by omega, by go_num, env', _, _, by rw [HLN.out, Int.natCast_add], Lib.hid HRL.out.at_, Lib.hid HRL.out.env, hel2, Lib.hid HRL.out.but, Lib.hid HRL.out.sub, Lib.hid (by rw [HLN.out]; exact HRN.out)⟩
          case measure => simp [intOf]; omega
      by_cases h5 : k = 5
      · subst h5
        by_cases hf : m'.st < F
        case neg =>
          have hrn : res = none := by
            have := HDR.out
            rw [stR_none (by omega) hf] at this
            exact this.symm
          subst hrn
          go_wp2_with fail
          refine (step_no HR0.out.at_ hf).mono ?_
          rintro e w' ⟨rfl, hb⟩
          have hbx := HR0.out.but.transNew' hb HR0.out.sub
          go_wp2_with fail
          exact ⟨rfl, rfl, hbx⟩
        go_wp2_with fail
        refine (step_ok HR0.out.at_ hf).mono ?_
        rintro e w1 ⟨rfl, ha, hb⟩
        have HR1 := Lib.hid (HR0.out.step hb ha (Sub.plus _ _ _))
        clear ha hb c0 c1 c2 c3 c4 c5 c6 c7 c8 c9 c10 c11
        have c0 := HR1.out.rn.bd.cell 0 _ rfl; have c1 := HR1.out.rn.bd.cell 1 _ rfl; have c2 := HR1.out.rn.bd.cell 2 _ rfl; have c3 := HR1.out.rn.bd.cell 3 _ rfl; have c4 := HR1.out.rn.bd.cell 4 _ rfl; have c5 := HR1.out.rn.bd.cell 5 _ rfl; have c6 := HR1.out.rn.bd.cell 6 _ rfl; have c7 := HR1.out.rn.bd.cell 7 _ rfl; have c8 := HR1.out.rn.bd.cell 8 _ rfl; have c9 := HR1.out.rn.bd.cell 9 _ rfl; have c10 := HR1.out.rn.bd.cell 10 _ rfl; have c11 := HR1.out.rn.bd.cell 11 _ rfl
        have hel1 : env'.length < m'.step.st := by simp only [MS.step]; omega
        have HK1 := Lib.hid (show m'.tr.length ≤ m'.st from HR0.out.at_.2.1)
        have hlb5 : labelsL body = N1 := by rw [← hlbb, labels_one (by omega)]
        cases hrb : blR F body env' N0 m'.step with
        | none =>
          have hrn : res = none := by
            have := HDR.out
            rw [stR_block (by omega) hf, hrb] at this
            exact this.symm
          subst hrn
          go_wp2_with fail
          refine (HIB.out.1 base w1 d X' m'.step env' N0 S _ _ HR1.out.at_ HS.out HR1.out.rn.r1 HR1.out.env (by omega) (by omega) hx3 _ hrb).mono ?_
          rintro e w' ⟨rfl, hb⟩
          have hbx := HR1.out.but.transNew' hb HR1.out.sub
          go_wp2_with fail
          exact ⟨rfl, rfl, hbx⟩
        | some mf =>
          have HRN := Lib.hid (by have := HDR.out; rw [stR_block (by omega) hf, hrb] at this; exact this : blR F (l.drop (q + 1)) env' (N0 + N1) mf = res)
          go_wp2_with fail
          refine (HIB.out.1 base w1 d X' m'.step env' N0 S _ _ HR1.out.at_ HS.out HR1.out.rn.r1 HR1.out.env (by omega) (by omega) hx3 _ hrb).mono ?_
          rintro e w4 ⟨rfl, ⟨X4, ha, hs4⟩, hb⟩
          have HR4 := Lib.hid (HR1.out.step hb ha hs4)
          have hel2 : env'.length ≤ mf.st := Nat.le_trans (Nat.le_of_lt hel1) (blR_mono F _ _ _ _ _ hrb)
          clear ha hs4 hb hrb
          clear c0 c1 c2 c3 c4 c5 c6 c7 c8 c9 c10 c11
          have c0 := HR4.out.rn.bd.cell 0 _ rfl; have c1 := HR4.out.rn.bd.cell 1 _ rfl; have c2 := HR4.out.rn.bd.cell 2 _ rfl; have c3 := HR4.out.rn.bd.cell 3 _ rfl; have c4 := HR4.out.rn.bd.cell 4 _ rfl; have c5 := HR4.out.rn.bd.cell 5 _ rfl; have c6 := HR4.out.rn.bd.cell 6 _ rfl; have c7 := HR4.out.rn.bd.cell 7 _ rfl; have c8 := HR4.out.rn.bd.cell 8 _ rfl; have c9 := HR4.out.rn.bd.cell 9 _ rfl; have c10 := HR4.out.rn.bd.cell 10 _ rfl; have c11 := HR4.out.rn.bd.cell 11 _ rfl
          have HSN4 := Lib.hid (SRn.same HR4.out HG0.out hbs HSM.out)
          have hld4 := HR4.out.rn.bd.lt
          have hwl1 := i64_2 (show N0 + N1 ≤ 1048577 by omega)
          have hwl2 := w64_2 (show N0 + N1 ≤ 1048577 by omega)
          go_wp2_with fail
          refine (labelsOf_one HRS.out HSN4.out HR4.out.sW rfl hw1 rfl).mono ?_
          rintro e wl ⟨rfl, hbl⟩
          rw [← HN1.out]
          have HRL := Lib.hid (HR4.out.below hbl)
          clear c0 c1 c2 c3 c4 c5 c6 c7 c8 c9 c10 c11 hbl hld4
          go_wp2_with fail
          go_roundw
          case rel => exact ⟨q + 1, by omega, by go_num, env', _, _, by rw [HLN.out, Int.natCast_add], Lib.hid HRL.out.at_, Lib.hid HRL.out.env, hel2, Lib.hid HRL.out.but, Lib.hid HRL.out.sub, Lib.hid (by rw [HLN.out]; exact HRN.out)⟩
          case measure => simp [intOf]; omega
      by_cases h6 : k = 6
      · subst h6
        by_cases hf : m'.st < F
        case neg =>
          have hrn : res = none := by
            have := HDR.out
            rw [stR_none (by omega) hf] at this
            exact this.symm
          subst hrn
          go_wp2_with fail
          refine (step_no HR0.out.at_ hf).mono ?_
          rintro e w' ⟨rfl, hb⟩
          have hbx := HR0.out.but.transNew' hb HR0.out.sub
          go_wp2_with fail
          exact ⟨rfl, rfl, hbx⟩
        go_wp2_with fail
        refine (step_ok HR0.out.at_ hf).mono ?_
        rintro e w1 ⟨rfl, ha, hb⟩
        have HR1 := Lib.hid (HR0.out.step hb ha (Sub.plus _ _ _))
        clear ha hb c0 c1 c2 c3 c4 c5 c6 c7 c8 c9 c10 c11
        have c0 := HR1.out.rn.bd.cell 0 _ rfl; have c1 := HR1.out.rn.bd.cell 1 _ rfl; have c2 := HR1.out.rn.bd.cell 2 _ rfl; have c3 := HR1.out.rn.bd.cell 3 _ rfl; have c4 := HR1.out.rn.bd.cell 4 _ rfl; have c5 := HR1.out.rn.bd.cell 5 _ rfl; have c6 := HR1.out.rn.bd.cell 6 _ rfl; have c7 := HR1.out.rn.bd.cell 7 _ rfl; have c8 := HR1.out.rn.bd.cell 8 _ rfl; have c9 := HR1.out.rn.bd.cell 9 _ rfl; have c10 := HR1.out.rn.bd.cell 10 _ rfl; have c11 := HR1.out.rn.bd.cell 11 _ rfl
        have hel1 : env'.length < m'.step.st := by simp only [MS.step]; omega
        have HK1 := Lib.hid (show m'.tr.length ≤ m'.st from HR0.out.at_.2.1)
        have hlb5 : labelsL body + labelsL els = N1 := by rw [← hlbb, labels_if]
        go_wp2_with fail
        refine (eval_fx env' a w1 S X' _ _ HR1.out.sW HR1.out.rn.ra HR1.out.env).mono ?_
        rintro e wv ⟨rfl, hin, hb1⟩
        have HR2 := Lib.hid (HR1.out.below hb1)
        clear hb1
        clear c0 c1 c2 c3 c4 c5 c6 c7 c8 c9 c10 c11
        have c0 := HR2.out.rn.bd.cell 0 _ rfl; have c1 := HR2.out.rn.bd.cell 1 _ rfl; have c2 := HR2.out.rn.bd.cell 2 _ rfl; have c3 := HR2.out.rn.bd.cell 3 _ rfl; have c4 := HR2.out.rn.bd.cell 4 _ rfl; have c5 := HR2.out.rn.bd.cell 5 _ rfl; have c6 := HR2.out.rn.bd.cell 6 _ rfl; have c7 := HR2.out.rn.bd.cell 7 _ rfl; have c8 := HR2.out.rn.bd.cell 8 _ rfl; have c9 := HR2.out.rn.bd.cell 9 _ rfl; have c10 := HR2.out.rn.bd.cell 10 _ rfl; have c11 := HR2.out.rn.bd.cell 11 _ rfl
        by_cases hw : a.worth env' = 0
        case neg =>
          cases hrb : blR F body env' N0 m'.step with
          | none =>
            have hrn : res = none := by
              have := HDR.out
              rw [stR_then hf hw, hrb] at this
              exact this.symm
            subst hrn
            go_wp2_with fail
            refine (HIB.out.1 base wv d X' m'.step env' N0 S _ _ HR2.out.at_ HS.out HR2.out.rn.r1 HR2.out.env (by omega) (by omega) hx3 _ hrb).mono ?_
            rintro e w' ⟨rfl, hb⟩
            have hbx := HR2.out.but.transNew' hb HR2.out.sub
            go_wp2_with fail
            exact ⟨rfl, rfl, hbx⟩
          | some mf =>
            have HRN := Lib.hid (by have := HDR.out; rw [stR_then hf hw, hrb] at this; exact this : blR F (l.drop (q + 1)) env' (N0 + N1) mf = res)
            go_wp2_with fail
            refine (HIB.out.1 base wv d X' m'.step env' N0 S _ _ HR2.out.at_ HS.out HR2.out.rn.r1 HR2.out.env (by omega) (by omega) hx3 _ hrb).mono ?_
            rintro e w4 ⟨rfl, ⟨X4, ha, hs4⟩, hb⟩
            have HR4 := Lib.hid (HR2.out.step hb ha hs4)
            have hel2 : env'.length ≤ mf.st := Nat.le_trans (Nat.le_of_lt hel1) (blR_mono F _ _ _ _ _ hrb)
            clear ha hs4 hb hrb
            clear c0 c1 c2 c3 c4 c5 c6 c7 c8 c9 c10 c11
            have c0 := HR4.out.rn.bd.cell 0 _ rfl; have c1 := HR4.out.rn.bd.cell 1 _ rfl; have c2 := HR4.out.rn.bd.cell 2 _ rfl; have c3 := HR4.out.rn.bd.cell 3 _ rfl; have c4 := HR4.out.rn.bd.cell 4 _ rfl; have c5 := HR4.out.rn.bd.cell 5 _ rfl; have c6 := HR4.out.rn.bd.cell 6 _ rfl; have c7 := HR4.out.rn.bd.cell 7 _ rfl; have c8 := HR4.out.rn.bd.cell 8 _ rfl; have c9 := HR4.out.rn.bd.cell 9 _ rfl; have c10 := HR4.out.rn.bd.cell 10 _ rfl; have c11 := HR4.out.rn.bd.cell 11 _ rfl
            have HSN4 := Lib.hid (SRn.same HR4.out HG0.out hbs HSM.out)
            have hld4 := HR4.out.rn.bd.lt
            have hwl1 := i64_2 (show N0 + N1 ≤ 1048577 by omega)
            have hwl2 := w64_2 (show N0 + N1 ≤ 1048577 by omega)
            go_wp2_with fail
            refine (labelsOf_one HRS.out HSN4.out HR4.out.sW rfl hw1 rfl).mono ?_
            rintro e wl ⟨rfl, hbl⟩
            rw [← HN1.out]
            have HRL := Lib.hid (HR4.out.below hbl)
            clear c0 c1 c2 c3 c4 c5 c6 c7 c8 c9 c10 c11 hbl hld4
            go_wp2_with fail
            go_roundw
            case rel => exact ⟨q + 1, by omega, by go_num, env', _, _, by rw [HLN.out, Int.natCast_add], Lib.hid HRL.out.at_, Lib.hid HRL.out.env, hel2, Lib.hid HRL.out.but, Lib.hid HRL.out.sub, Lib.hid (by rw [HLN.out]; exact HRN.out)⟩
            case measure => simp [intOf]; omega
        have HRd := Lib.hid (HR2.out.below ((Below.refl _ _).drew))
        have hwl1 := i64_2 (show N0 + labelsL body ≤ 1048577 by omega)
        have HA := Lib.hid (show ∀ w3, Below wv.drew.heap.size wv.drew w3 → SRn base d F S y [.int .i64 6, .string s, .int .i64 k1, .int .i64 n1, .string s1, .slice A1 m1 p1, .int .i64 k2, .int .i64 n2, .string s2, .slice A2 m2 p2, .slice A3 body.length p3, .slice A4 els.length p4] a b (exV k1 n1 s1 (.slice A1 m1 p1)) (exV k2 n2 s2 (.slice A2 m2 p2)) body els (.slice A3 body.length p3) (.slice A4 els.length p4) w X w3 X' m'.step env' (.slice Ae env'.length ce) ∧ SameAt y wv w3 from fun w3 hb => ⟨HRd.out.below hb, SameAt.trans (SameAt.drew (SameAt.refl y wv)) (SRn.sameAt HRd.out (But.of_below hb))⟩)
        have HBL := Lib.hid (show ∀ w3 r, SRn base d F S y [.int .i64 6, .string s, .int .i64 k1, .int .i64 n1, .string s1, .slice A1 m1 p1, .int .i64 k2, .int .i64 n2, .string s2, .slice A2 m2 p2, .slice A3 body.length p3, .slice A4 els.length p4] a b (exV k1 n1 s1 (.slice A1 m1 p1)) (exV k2 n2 s2 (.slice A2 m2 p2)) body els (.slice A3 body.length p3) (.slice A4 els.length p4) w X w3 X' m'.step env' (.slice Ae env'.length ce) → blR F els env' (N0 + labelsL body) m'.step = r → Calls Try.prog 53 #[.pointer (some ⟨d, 0, none⟩), .slice A4 els.length p4, .slice Ae env'.length ce, vI ((N0 : Int) + (labelsL body : Int))] w3 (OutB base d F w3 X' r) from fun w3 r h hr => by
          have := HIB.out.2.1 base w3 d X' m'.step env' (N0 + labelsL body) S _ _ h.at_ HS.out h.rn.r2 h.env (by omega) (by omega) hx4 r hr
          rwa [Int.natCast_add] at this)
        have HLB := Lib.hid (fun w S v hS r => (labs_all _ body (Nat.le_refl _)).1 w S v hS r hx3)
        cases hrb : blR F els env' (N0 + labelsL body) m'.step with
        | none =>
          have hrn : res = none := by
            have := HDR.out
            rw [stR_else hf hw, hrb] at this
            exact this.symm
          subst hrn
          go_upto_region 22 with (fail)
          go_region_dies
          iterate 2
           ·
            refine (HLB.out _ S _ HRd.out.sW HRd.out.rn.r1).mono ?_
            rintro e w3 ⟨rfl, hb3⟩
            obtain ⟨hr3, hs3⟩ := HA.out w3 hb3
            have d11 := hr3.rn.bd.cell 11 _ rfl
            rename_i K hK
            refine hK _ _ ?_
            clear hK K
            refine wpAny_take (i := 8) (v := vI ((N0 : Int) + (labelsL body : Int))) rfl (by kernel_rfl) (by kernel_rfl) (by kernel_rfl) (fun _ _ _ h => h) (Or.inl ⟨by rfl, fun w => by go_simp⟩) ?_
            refine wpAny_ready (rs := [9]) (by kernel_rfl) (by simp) ?_
            refine AllReady.cons rfl (fun K hK => ?_) AllReady.nil
            go_simp
            refine (HBL.out w3 _ hr3 hrb).mono ?_
            rintro e w4 ⟨rfl, hb⟩
            exact ⟨rfl, rfl, hr3.but.transNew' hb hr3.sub⟩
          · skip
            refine (HLB.out _ S _ HRd.out.sW HRd.out.rn.r1).mono ?_
            rintro e w3 ⟨rfl, hb3⟩
            obtain ⟨hr3, hs3⟩ := HA.out w3 hb3
            have d11 := hr3.rn.bd.cell 11 _ rfl
            rename_i K hK
            refine hK _ _ ?_
            clear hK K
            refine wpAny_take (i := 8) (v := vI ((N0 : Int) + (labelsL body : Int))) rfl (by kernel_rfl) (by kernel_rfl) (by kernel_rfl) (fun _ _ _ h => h) (Or.inl ⟨by rfl, fun w => by go_simp⟩) ?_
            refine wpAny_ready (rs := [2]) (by kernel_rfl) (by simp) ?_
            refine AllReady.cons rfl (fun K hK => ?_) AllReady.nil
            go_simp
            refine hK _ _ ?_
            clear hK K
            refine wpAny_ready (rs := [9]) (by kernel_rfl) (by simp) ?_
            refine AllReady.cons rfl (fun K hK => ?_) AllReady.nil
            go_simp
            refine (HBL.out w3 _ hr3 hrb).mono ?_
            rintro e w4 ⟨rfl, hb⟩
            exact ⟨rfl, rfl, hr3.but.transNew' hb hr3.sub⟩
        | some mf =>
          have HRN := Lib.hid (by have := HDR.out; rw [stR_else hf hw, hrb] at this; exact this : blR F (l.drop (q + 1)) env' (N0 + N1) mf = res)
          have HC4 := Lib.hid (show ∀ w3 w4 X4, SRn base d F S y [.int .i64 6, .string s, .int .i64 k1, .int .i64 n1, .string s1, .slice A1 m1 p1, .int .i64 k2, .int .i64 n2, .string s2, .slice A2 m2 p2, .slice A3 body.length p3, .slice A4 els.length p4] a b (exV k1 n1 s1 (.slice A1 m1 p1)) (exV k2 n2 s2 (.slice A2 m2 p2)) body els (.slice A3 body.length p3) (.slice A4 els.length p4) w X w3 X' m'.step env' (.slice Ae env'.length ce) → SameAt y wv w3 → But X' w3 w4 → RnAt base w4 d X4 F mf → Sub X4 (Plus X' w3.heap.size w4.heap.size) → SRn base d F S y [.int .i64 6, .string s, .int .i64 k1, .int .i64 n1, .string s1, .slice A1 m1 p1, .int .i64 k2, .int .i64 n2, .string s2, .slice A2 m2 p2, .slice A3 body.length p3, .slice A4 els.length p4] a b (exV k1 n1 s1 (.slice A1 m1 p1)) (exV k2 n2 s2 (.slice A2 m2 p2)) body els (.slice A3 body.length p3) (.slice A4 els.length p4) w X w4 X4 mf env' (.slice Ae env'.length ce) ∧ SameAt y wv w4 from fun w3 w4 X4 h g hb ha hs => ⟨h.step hb ha hs, g.trans (SRn.sameAt h hb)⟩)
          go_upto_region 22 with (fail)
          go_region_held3 (fun w' => SameAt y wv w') (first | assumption | exact SameAt.refl _ _ | exact SameAt.drew (SameAt.refl _ _))
            (first
              | ((go_at_call 38; refine (HLB.out _ S _ HRd.out.sW HRd.out.rn.r1).mono ?_; rintro e w3 ⟨rfl, hb3⟩; obtain ⟨hr3, hs3⟩ := HA.out w3 hb3))
              | ((go_at_call 53; refine (HBL.out w3 _ hr3 hrb).mono ?_; rintro e w4 ⟨rfl, ⟨X4, ha, hs4⟩, hb⟩; obtain ⟨hr4, hs5⟩ := HC4.out w3 w4 X4 hr3 hs3 hb ha hs4)))
          rename_i hheld
          clear hheld
          have HR4 := Lib.hid hr4
          have hel2 : env'.length ≤ mf.st := Nat.le_trans (Nat.le_of_lt hel1) (blR_mono F _ _ _ _ _ hrb)
          clear ha hs4 hb hrb hr3 hr4 hs3 hs5 hb3 HA HBL HC4 HRd hwl1
          clear c0 c1 c2 c3 c4 c5 c6 c7 c8 c9 c10 c11
          have c0 := HR4.out.rn.bd.cell 0 _ rfl; have c1 := HR4.out.rn.bd.cell 1 _ rfl; have c2 := HR4.out.rn.bd.cell 2 _ rfl; have c3 := HR4.out.rn.bd.cell 3 _ rfl; have c4 := HR4.out.rn.bd.cell 4 _ rfl; have c5 := HR4.out.rn.bd.cell 5 _ rfl; have c6 := HR4.out.rn.bd.cell 6 _ rfl; have c7 := HR4.out.rn.bd.cell 7 _ rfl; have c8 := HR4.out.rn.bd.cell 8 _ rfl; have c9 := HR4.out.rn.bd.cell 9 _ rfl; have c10 := HR4.out.rn.bd.cell 10 _ rfl; have c11 := HR4.out.rn.bd.cell 11 _ rfl
          have HSN4 := Lib.hid (SRn.same HR4.out HG0.out hbs HSM.out)
          have hld4 := HR4.out.rn.bd.lt
          have hwl1 := i64_2 (show N0 + N1 ≤ 1048577 by omega)
          have hwl2 := w64_2 (show N0 + N1 ≤ 1048577 by omega)
          go_wp2_with fail
          refine (labelsOf_one HRS.out HSN4.out HR4.out.sW rfl hw1 rfl).mono ?_
          rintro e wl ⟨rfl, hbl⟩
          rw [← HN1.out]
          have HRL := Lib.hid (HR4.out.below hbl)
          clear c0 c1 c2 c3 c4 c5 c6 c7 c8 c9 c10 c11 hbl hld4
          go_wp2_with fail
          go_roundw
          case rel => exact ⟨q + 1, by omega, by go_num, env', _, _, by rw [HLN.out, Int.natCast_add], Lib.hid HRL.out.at_, Lib.hid HRL.out.env, hel2, Lib.hid HRL.out.but, Lib.hid HRL.out.sub, Lib.hid (by rw [HLN.out]; exact HRN.out)⟩
          case measure => simp [intOf]; omega
      have h7 : k = 7 := by omega
      subst h7
      by_cases hf : m'.st < F
      case neg =>
        have hrn : res = none := by
          have := HDR.out
          rw [stR_none (by omega) hf] at this
          exact this.symm
        subst hrn
        go_wp2_with fail
        refine (step_no HR0.out.at_ hf).mono ?_
        rintro e w' ⟨rfl, hb⟩
        have hbx := HR0.out.but.transNew' hb HR0.out.sub
        go_wp2_with fail
        exact ⟨rfl, rfl, hbx⟩
      go_wp2_with fail
      refine (step_ok HR0.out.at_ hf).mono ?_
      rintro e w1 ⟨rfl, ha, hb⟩
      have HR1 := Lib.hid (HR0.out.step hb ha (Sub.plus _ _ _))
      clear ha hb c0 c1 c2 c3 c4 c5 c6 c7 c8 c9 c10 c11
      have c0 := HR1.out.rn.bd.cell 0 _ rfl; have c1 := HR1.out.rn.bd.cell 1 _ rfl; have c2 := HR1.out.rn.bd.cell 2 _ rfl; have c3 := HR1.out.rn.bd.cell 3 _ rfl; have c4 := HR1.out.rn.bd.cell 4 _ rfl; have c5 := HR1.out.rn.bd.cell 5 _ rfl; have c6 := HR1.out.rn.bd.cell 6 _ rfl; have c7 := HR1.out.rn.bd.cell 7 _ rfl; have c8 := HR1.out.rn.bd.cell 8 _ rfl; have c9 := HR1.out.rn.bd.cell 9 _ rfl; have c10 := HR1.out.rn.bd.cell 10 _ rfl; have c11 := HR1.out.rn.bd.cell 11 _ rfl
      have hel1 : env'.length < m'.step.st := by simp only [MS.step]; omega
      have HK1 := Lib.hid (show m'.tr.length ≤ m'.st from HR0.out.at_.2.1)
      have hlb5 : labelsL body = N1 := by rw [← hlbb, labels_one (by omega)]
      cases hrb : forR F (b.worth env') (fun i m => blR F body (env' ++ [⟨s, i⟩]) N0 m) (F + 1) (a.worth env') m'.step with
      | none =>
        have hrn : res = none := by
          have := HDR.out
          rw [stR_for hf, hrb] at this
          exact this.symm
        subst hrn
        go_wp2_with fail
        refine (HIB.out.2.2 base w1 d X' m'.step env' N0 S _ _ _ _ _ _ _ _ _ _ _ _ _ _ _ _ _ HR1.out.at_ HS.out HOKs HR1.out.rn.ra HR1.out.rn.rb HR1.out.rn.r1 HR1.out.env hel1 (by omega) hx3 _ hrb).mono ?_
        rintro e w' ⟨rfl, hb⟩
        have hbx := HR1.out.but.transNew' hb HR1.out.sub
        go_wp2_with fail
        exact ⟨rfl, rfl, hbx⟩
      | some mf =>
        have HRN := Lib.hid (by have := HDR.out; rw [stR_for hf, hrb] at this; exact this : blR F (l.drop (q + 1)) env' (N0 + N1) mf = res)
        go_wp2_with fail
        refine (HIB.out.2.2 base w1 d X' m'.step env' N0 S _ _ _ _ _ _ _ _ _ _ _ _ _ _ _ _ _ HR1.out.at_ HS.out HOKs HR1.out.rn.ra HR1.out.rn.rb HR1.out.rn.r1 HR1.out.env hel1 (by omega) hx3 _ hrb).mono ?_
        rintro e w4 ⟨rfl, ⟨X4, ha, hs4⟩, hb⟩
        have HR4 := Lib.hid (HR1.out.step hb ha hs4)
        have hel2 : env'.length ≤ mf.st := Nat.le_trans (Nat.le_of_lt hel1) (forR_mono (fun i m m' h => blR_mono F _ _ _ _ _ h) _ _ _ _ hrb)
        clear ha hs4 hb hrb
        clear c0 c1 c2 c3 c4 c5 c6 c7 c8 c9 c10 c11
        have c0 := HR4.out.rn.bd.cell 0 _ rfl; have c1 := HR4.out.rn.bd.cell 1 _ rfl; have c2 := HR4.out.rn.bd.cell 2 _ rfl; have c3 := HR4.out.rn.bd.cell 3 _ rfl; have c4 := HR4.out.rn.bd.cell 4 _ rfl; have c5 := HR4.out.rn.bd.cell 5 _ rfl; have c6 := HR4.out.rn.bd.cell 6 _ rfl; have c7 := HR4.out.rn.bd.cell 7 _ rfl; have c8 := HR4.out.rn.bd.cell 8 _ rfl; have c9 := HR4.out.rn.bd.cell 9 _ rfl; have c10 := HR4.out.rn.bd.cell 10 _ rfl; have c11 := HR4.out.rn.bd.cell 11 _ rfl
        have HSN4 := Lib.hid (SRn.same HR4.out HG0.out hbs HSM.out)
        have hld4 := HR4.out.rn.bd.lt
        have hwl1 := i64_2 (show N0 + N1 ≤ 1048577 by omega)
        have hwl2 := w64_2 (show N0 + N1 ≤ 1048577 by omega)
        go_wp2_with fail
        refine (labelsOf_one HRS.out HSN4.out HR4.out.sW rfl hw1 rfl).mono ?_
        rintro e wl ⟨rfl, hbl⟩
        rw [← HN1.out]
        have HRL := Lib.hid (HR4.out.below hbl)
        clear c0 c1 c2 c3 c4 c5 c6 c7 c8 c9 c10 c11 hbl hld4
        go_wp2_with fail
        go_roundw
        case rel => exact ⟨q + 1, by omega, by go_num, env', _, _, by rw [HLN.out, Int.natCast_add], Lib.hid HRL.out.at_, Lib.hid HRL.out.env, hel2, Lib.hid HRL.out.but, Lib.hid HRL.out.sub, Lib.hid (by rw [HLN.out]; exact HRN.out)⟩
        case measure => simp [intOf]; omega
    · have e : q = l.length := by omega
      subst e
      have hr := HRES.out
      rw [List.drop_length, blR_nil] at hr
      clear hlt
      go_wp2
      go_end0
      subst hr
      exact ⟨rfl, ⟨X', HK.out, HSb.out⟩, HB.out⟩
end Go.Proofs.Ytdelngmbpjgphaa
