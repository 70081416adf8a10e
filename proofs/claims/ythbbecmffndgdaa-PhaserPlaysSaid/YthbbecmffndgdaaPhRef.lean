/- The walk of the reference's WPlay. -/
import Derived.Test.YthbbecmffndgdaaPhDel
import Derived.Test.YthbbecmffndgdaaPhPlay
import Derived.Test.YthbbecmffndgdaaAppStep
import Derived.Deep.CutBlock
namespace Go.Proofs.Ythbbecmffndgdaa
open Go.RowKit
set_option linter.unusedVariables false
theorem OwnL.rebase {α : Type} {rd : World → Blocks → α → List Value → Prop} {size : Nat} {E : TypeId} {w : World} {base base' : Nat} {S : Blocks} {l : List α} {v : Value} (h : OwnL rd size E w base S l v) (hb : base' ≤ base) : OwnL rd size E w base' S l v := by
  obtain ⟨T, css, t1, t2, t3, h1, h2, h3, h4⟩ := h
  refine ⟨T, css, t1, t2, t3, h1, h2, ?_, h4⟩
  obtain ⟨e, h3⟩ := h3
  refine ⟨e, ?_⟩
  rcases h3 with h3 | ⟨g, cap, cur, rfl, hbg, hg, hn, hcap, hsz, htake⟩
  · exact .inl h3
  · exact .inr ⟨g, cap, cur, rfl, Nat.le_trans hb hbg, hg, hn, hcap, hsz, htake⟩
/-- what the choice leaves behind -/
def CutR (z : Nat) (X : Blocks) (t : RfS) (o : PhO) (W : World) (x y : Value) (wx : World) : Prop :=
  ∃ X', Hid (RdI wx X' (listR t o).inn x) ∧ Hid (RdI wx X' (listR t o).wait y) ∧ Hid (Sub X' (Plus X W.heap.size wx.heap.size)) ∧
    Hid (Blk 0 wx (z + 1) [.int .i64 (errR t o), .int .i64 (if errR t o = 8 ∧ o.kind = 4 then (t.ph : Int) else 0)]) ∧ But (Is (z + 1)) W wx
section
variable {z : Nat} {X : Blocks} {t : RfS} {o : PhO} {W : World} {x y : Value}
theorem cutR_err (RI : RdI W X t.inn x) (RW : RdI W X t.wait y) (BA : Blk 0 W (z + 1) [.int .i64 0, .int .i64 0]) (hX : ∀ b, X b → ¬ Is (z + 1) b) (hXu : Sub X (Upto W.heap.size)) {c : Int} (he : errR t o = c) (hc : c ≠ 0) (h8 : ¬ (c = 8 ∧ o.kind = 4)) :
    CutR z X t o W x y (W.setCell ⟨z + 1, 0, none⟩ (.int .i64 c)) := by
  have hb := (But.refl (Is (z + 1)) W).setCell (p := ⟨z + 1, 0, none⟩) rfl (.int .i64 c)
  have hl : listR t o = t := by unfold listR; rw [if_pos (by rw [he]; exact hc)]
  refine ⟨X, Lib.hid ?_, Lib.hid ?_, Lib.hid (Sub.plus _ _ _), Lib.hid ?_, hb⟩
  · rw [hl]; exact RI.keep Flat.keeps (Sub.refl _) (hb.same hXu hX)
  · rw [hl]; exact RW.keep Flat.keeps (Sub.refl _) (hb.same hXu hX)
  · rw [he, if_neg h8]; exact BA.set (i := 0) (by simp) _
theorem cutR_err8 (RI : RdI W X t.inn x) (RW : RdI W X t.wait y) (BA : Blk 0 W (z + 1) [.int .i64 0, .int .i64 0]) (hX : ∀ b, X b → ¬ Is (z + 1) b) (hXu : Sub X (Upto W.heap.size)) (he : errR t o = 8) (h8 : o.kind = 4) :
    CutR z X t o W x y ((W.setCell ⟨z + 1, 0, none⟩ (.int .i64 8)).setCell ⟨z + 1, 1, none⟩ (.int .i64 (t.ph : Int))) := by
  have hb := ((But.refl (Is (z + 1)) W).setCell (p := ⟨z + 1, 0, none⟩) rfl (.int .i64 8)).setCell (p := ⟨z + 1, 1, none⟩) rfl (.int .i64 (t.ph : Int))
  have hl : listR t o = t := by unfold listR; rw [if_pos (by rw [he]; decide)]
  refine ⟨X, Lib.hid ?_, Lib.hid ?_, Lib.hid (Sub.plus _ _ _), Lib.hid ?_, hb⟩
  · rw [hl]; exact RI.keep Flat.keeps (Sub.refl _) (hb.same hXu hX)
  · rw [hl]; exact RW.keep Flat.keeps (Sub.refl _) (hb.same hXu hX)
  · rw [he, if_pos ⟨rfl, h8⟩]; exact (BA.set (i := 0) (by simp) (.int .i64 8)).set (i := 1) (by simp) _
theorem cutR_ok {w' : World} {X' : Blocks} (he : errR t o = 0) (RI : RdI w' X' (listR t o).inn x) (RW : RdI w' X' (listR t o).wait y) (hX' : Sub X' (Plus X W.heap.size w'.heap.size)) (BA : Blk 0 w' (z + 1) [.int .i64 0, .int .i64 0]) (hb : But (Is (z + 1)) W w') :
    CutR z X t o W x y w' := by
  refine ⟨X', Lib.hid RI, Lib.hid RW, Lib.hid hX', Lib.hid ?_, hb⟩
  rw [he, if_neg (by simp)]; exact BA
end
theorem err9 {t : RfS} {o : PhO} (h : o.kind < 1 ∨ 4 < o.kind) : errR t o = 9 := by unfold errR; rw [if_pos h]
theorem err7 {t : RfS} {o : PhO} (h : ¬ (o.kind < 1 ∨ 4 < o.kind)) (h1 : t.inn.contains (whoP o) = false) : errR t o = 7 := by unfold errR; rw [if_neg h, if_pos h1]
theorem err8 {t : RfS} {o : PhO} (h : ¬ (o.kind < 1 ∨ 4 < o.kind)) (h1 : t.inn.contains (whoP o) = true) (h2 : t.wait.contains (whoP o) = true) : errR t o = 8 := by unfold errR; rw [if_neg h, if_neg (by rw [h1]; decide), if_pos h2]
theorem err2 {t : RfS} {o : PhO} (h : o.kind = 1) (h1 : t.inn.contains (whoP o) = true) (h2 : t.wait.contains (whoP o) = false) (h3 : o.who < 0 ∨ 15 < o.who ∨ t.inn.contains o.who = true) : errR t o = 2 := by
  unfold errR; rw [if_neg (by omega), if_neg (by rw [h1]; decide), if_neg (by rw [h2]; decide), if_pos ⟨h, h3⟩]
theorem err0 {t : RfS} {o : PhO} (h : ¬ (o.kind < 1 ∨ 4 < o.kind)) (h1 : t.inn.contains (whoP o) = true) (h2 : t.wait.contains (whoP o) = false) (h3 : ¬ (o.kind = 1 ∧ (o.who < 0 ∨ 15 < o.who ∨ t.inn.contains o.who = true))) : errR t o = 0 := by
  unfold errR; rw [if_neg h, if_neg (by rw [h1]; decide), if_neg (by rw [h2]; decide), if_neg h3]
theorem infoIn : (Try.prog.info? 3).map (fun i => (i.zero, i.size, i.bytes)) = some (some (.int .i64 0), 1, 8) := by kernel_rfl
theorem upto_in {l : List Int} {n : Nat} (h : l.length ≤ n) (hn : n ≤ 1000) : l.length ≤ maxLen ∧ l.length * 8 ≤ 140737488355328 := by unfold maxLen; omega
set_option maxHeartbeats 2000000 in
set_option maxRecDepth 100000 in
theorem wplay_any (ops : List PhO) (w : World) (S : Blocks) (hS : Sub S (Upto w.heap.size)) (v : Value) (r : RdO3 w S ops v) :
    Calls Try.prog 14 #[v] w fun e w' => ∃ x, e = .returned x ∧ RdP w' (Plus Nowhere w.heap.size w'.heap.size) (runR ops).2 x ∧ Below w.heap.size w w' := by
  obtain ⟨i0, hi, hz0, hz1, hz2⟩ := info_parts infoPA
  obtain ⟨i1, hj, hy0, hy1, hy2⟩ := info_parts infoIn
  obtain ⟨A, cap, rfl, hl, hcm, hby⟩ := r.form
  unfold maxLen at hcm
  have R := Lib.hid r
  clear r
  go_enter Try.func14, Try.ntmps14
  go_wp2_with fail
  have hb0 : Below w.heap.size w ((w.alloc (.cells #[.int .i64 0] 3)).alloc (.cells #[] 3)) := ((Below.refl _ _).alloc (Nat.le_refl _) _).alloc (by simp) _
  have hin0 : RdI ((w.alloc (.cells #[.int .i64 0] 3)).alloc (.cells #[] 3)) (Is w.heap.size) [0] (.slice (some ⟨w.heap.size, 0, none⟩) 1 1) := rdI_one (by simp) (by unfold inI; omega) rfl
  have hsub0 : Sub (Is w.heap.size) (Plus Nowhere w.heap.size ((w.alloc (.cells #[.int .i64 0] 3)).alloc (.cells #[] 3)).heap.size) := fun b hb => by unfold Is at hb; subst hb; exact .inr ⟨Nat.le_refl _, by simp; omega⟩
  have HB0 := Lib.hid hb0
  have HI0 := Lib.hid hin0
  have HS0 := Lib.hid hsub0
  clear hb0 hin0 hsub0
  generalize (w.alloc (.cells #[.int .i64 0] 3)).alloc (.cells #[] 3) = W0 at *
  obtain ⟨d, hd⟩ : ∃ d, d = w.heap.size := ⟨_, rfl⟩
  have HD := Lib.hid hd
  rw [← hd]
  rw [← hd] at HI0 HS0
  clear hd
  go_loopw [3, 4, 5, 6, 15] (fun iv wv pv ov t wr => ∃ (q : Nat) (X : Blocks), q ≤ ops.length ∧ t = .int .i64 (q : Int) ∧ pv = .int .i64 ((runR (ops.take q)).1.ph : Int) ∧ OwnP 33 wr w.heap.size Nowhere (runR (ops.take q)).2 ov ∧ Hid (RdI wr X (runR (ops.take q)).1.inn iv) ∧ Hid (RdI wr X (runR (ops.take q)).1.wait wv) ∧ Hid (Sub X (Plus Nowhere w.heap.size wr.heap.size)) ∧ Hid (∀ k, ov.ownBlock = some k → ¬ X k) ∧ Below w.heap.size w wr) (fun _ _ _ _ t _ => ops.length - (intOf t).toNat)
  case atStart => exact ⟨0, Is d, by omega, rfl, rfl, OwnL.nil _ _ _, HI0, Lib.hid (RdL.nil (by simp [maxLen])), Lib.hid (by rw [← HD.out]; exact HS0.out), Lib.hid (fun k hk => by cases hk), HB0.out⟩
  case round =>
    clear HB0 HI0 HS0
    obtain ⟨q, X, hq, rfl, rfl, ho, hI, hWt, hXs, hX, hb⟩ := hrel
    have HO := Lib.hid ho
    clear ho
    have HL := Lib.hid (show (runR (ops.take q)).2.length = q by rw [← (run_ok _).ans, (run_ok _).len]; simp; omega)
    by_cases hlt : q < ops.length
    · have HT := Lib.hid (show ops.take (q + 1) = ops.take q ++ [ops[q]] by rw [List.take_succ_eq_append_getElem hlt])
      have HR := Lib.hid (run_ok (ops.take q)).rel
      have hph : (runR (ops.take q)).1.ph ≤ q := by have h1 := (run_ok (ops.take q)).rel.ph; have h2 := (run_ok (ops.take q)).ph; simp at h2; omega
      have HANS := Lib.hid (doR_okP (ops.take q) ops[q] (by simp; omega))
      obtain ⟨b0, off, rfl, hsb, hok, c0, c1, c2⟩ := RdO3.at1 (R.out.go Flat.keeps hb hS (Sub.refl _)) hlt
      generalize hoq : ops[q] = o at *
      clear hoq
      obtain ⟨k, n, m⟩ := o
      dsimp only at c0 c1 c2
      have hok1 := Lib.hid hok.2.1
      have hok2 := Lib.hid hok.2.2
      clear hok
      generalize hst : runR (ops.take q) = st at *
      have HST := Lib.hid hst
      clear hst
      obtain ⟨t, an⟩ := st
      dsimp only at HO hI hWt HR hph HANS HL
      obtain ⟨A1, n1, hv1⟩ := hI.out.form
      obtain ⟨rfl, hl1, hcm1, hby1⟩ := hv1
      obtain ⟨A2, n2, hv2⟩ := hWt.out.form
      obtain ⟨rfl, hl2, hcm2, hby2⟩ := hv2
      go_upto_if 24 with (fail)
      have hbe : Below wr.heap.size wr (((wr.alloc (.cells #[.int .i64 k, .int .i64 n, .int .i64 m] 68)).alloc (.cells #[.int .i64 0, .int .i64 0] 33)).alloc (.cells #[.int .i64 n] 3)) := (((Below.refl _ _).alloc (Nat.le_refl _) _).alloc (by simp) _).alloc (by simp; omega) _
      have hb2 := Lib.hid (hb.trans (hbe.mono hb.size))
      have hXu := hXs.out.trans (Sub.plus_upto (Sub.nowhere _))
      have hI2 := Lib.hid (hI.out.keep Flat.keeps (Sub.refl _) (same_of_below hbe hXu))
      have hW2 := Lib.hid (hWt.out.keep Flat.keeps (Sub.refl _) (same_of_below hbe hXu))
      have HO2 := Lib.hid (HO.out.keep Flat.keeps hbe)
      have bo := ((Blk.made wr [.int .i64 k, .int .i64 n, .int .i64 m] 68 (base := 0) (Nat.zero_le _)).below ((Below.refl _ _).alloc (Nat.le_refl _) (.cells #[.int .i64 0, .int .i64 0] 33))).below ((Below.refl _ _).alloc (Nat.le_refl _) (.cells #[.int .i64 n] 3))
      have ba := (Blk.made (wr.alloc (.cells #[.int .i64 k, .int .i64 n, .int .i64 m] 68)) [.int .i64 0, .int .i64 0] 33 (base := 0) (Nat.zero_le _)).below ((Below.refl _ _).alloc (Nat.le_refl _) (.cells #[.int .i64 n] 3))
      have bw := Blk.made ((wr.alloc (.cells #[.int .i64 k, .int .i64 n, .int .i64 m] 68)).alloc (.cells #[.int .i64 0, .int .i64 0] 33)) [.int .i64 n] 3 (base := 0) (Nat.zero_le _)
      have hzz : (((wr.alloc (.cells #[.int .i64 k, .int .i64 n, .int .i64 m] 68)).alloc (.cells #[.int .i64 0, .int .i64 0] 33)).alloc (.cells #[.int .i64 n] 3)).heap.size = wr.heap.size + 3 := by simp
      obtain ⟨z, hz⟩ : ∃ z, z = wr.heap.size := ⟨_, rfl⟩
      rw [World.size_alloc, ← hz] at ba
      rw [World.size_alloc, World.size_alloc, ← hz] at bw
      have HOz := Lib.hid (show ∀ k, u6.ownBlock = some k → k < z from fun k hk => by rw [hz]; exact (HO.out.lt k hk).2)
      have hXz := Lib.hid (show Sub X (Upto z) by rw [hz]; exact hXu)
      have hbz : w.heap.size ≤ z := by rw [hz]; exact hb.size
      rw [← hz] at bo hzz ⊢
      have BO := Lib.hid bo
      have BA := Lib.hid ba
      have BW := Lib.hid bw
      clear hz hbe hb hI hWt HO c0 c1 c2 bo ba bw hXu
      generalize ((wr.alloc (.cells #[.int .i64 k, .int .i64 n, .int .i64 m] 68)).alloc (.cells #[.int .i64 0, .int .i64 0] 33)).alloc (.cells #[.int .i64 n] 3) = W0' at *
      have o0 := BO.out.cell 0 _ rfl
      have o2 := BO.out.cell 2 _ rfl
      have bwf := BW.out.fr 0
      have bwc := BW.out.cell 0 _ rfl
      go_cut [] (fun wx => Hid (Blk 0 wx (z + 1 + 1) [.int .i64 (whoP ⟨k, n, m⟩)]) ∧ But (Is (z + 1 + 1)) W0' wx)
      case first =>
        clear hb2 HO2 HT R hX hXs hI2 hW2 HANS HR
        by_cases h1 : k = 1
        · subst h1
          go_wp2
          go_meet
          exact ⟨Lib.hid (BW.out.set (i := 0) (by simp) _), (But.refl (Is (z + 1 + 1)) _).setCell (p := ⟨z + 1 + 1, 0, none⟩) rfl _⟩
        · have hz : whoP ⟨k, n, m⟩ = n := by unfold whoP; rw [if_neg h1]
          have e1 : (k == 1) = false := by simpa using h1
          have HZ := Lib.hid hz
          clear hz
          go_wp2
          go_meet
          exact ⟨Lib.hid (by rw [HZ.out]; exact BW.out), But.refl _ _⟩
      case rest =>
        obtain ⟨BW1, hk1⟩ := hcut
        have hz3 := hk1.size
        have hXa : ∀ b, X b → ¬ Is (z + 1 + 1) b := fun b hb e => by have := hXz.out b hb; unfold Is at e; simp only [Upto] at this; omega
        have hXW := hXz.out.trans (Sub.upto (show z ≤ W0'.heap.size by omega))
        have hI3 := Lib.hid (hI2.out.keep Flat.keeps (Sub.refl _) (hk1.same hXW hXa))
        have hW3 := Lib.hid (hW2.out.keep Flat.keeps (Sub.refl _) (hk1.same hXW hXa))
        have HO3 := Lib.hid (HO2.out.but hk1 (fun g hg e => by have := HOz.out g hg; unfold Is at e; omega))
        have hb3 := Lib.hid (hb2.out.trans (hk1.below (B := w.heap.size) (by omega) (fun k e => by unfold Is at e; omega)))
        have BO3 := Lib.hid (BO.out.but hk1 (fun e => by unfold Is at e; omega))
        have BA3 := Lib.hid (BA.out.but hk1 (fun e => by unfold Is at e; omega))
        have hz4 : z + 3 ≤ wc.heap.size := by omega
        clear hk1 hb2 hI2 hW2 HO2 BO BA BW o0 o2 bwf bwc hzz hz3 hXa hXW
        obtain ⟨W, hW7⟩ : ∃ x, x = wc := ⟨wc, rfl⟩
        subst hW7
        have o0 := BO3.out.cell 0 _ rfl
        have o1 := BO3.out.cell 1 _ rfl
        have a0 := BA3.out.cell 0 _ rfl
        have f0 := BA3.out.fr 0
        have f1 := BA3.out.fr 1
        have w0 := BW1.out.cell 0 _ rfl
        go_upto_block 2 with (fail)
        go_cut [3, 4] (fun x y wx => CutR z X t ⟨k, n, m⟩ W x y wx)
        case first =>
          have hn16 := inn16 HR.out
          have hw16 := wait16 HR.out
          clear hXs hX HOz HO3 hb3 HT R HANS HR HL HST HD
          have hXa2 : ∀ b, X b → ¬ Is (z + 1) b := fun b hb e => by have := hXz.out b hb; unfold Is at e; simp only [Upto] at this; omega
          have hXW2 := hXz.out.trans (Sub.upto (show z ≤ W.heap.size by omega))
          have a1 := BA3.out.cell 1 _ rfl
          by_cases hk : k < 1 ∨ 4 < k
          · have HE := Lib.hid (err9 (t := t) (o := ⟨k, n, m⟩) hk)
            rcases hk with hk | hk
            · clear hXz
              go_wp2
              go_meet
              exact cutR_err hI3.out hW3.out BA3.out hXa2 hXW2 HE.out (by decide) (by simp)
            · have hk2 : ¬ k < 1 := by omega
              clear hXz
              go_wp2
              go_meet
              exact cutR_err hI3.out hW3.out BA3.out hXa2 hXW2 HE.out (by decide) (by simp)
          · have h4 : k = 1 ∨ k = 2 ∨ k = 3 ∨ k = 4 := by omega
            clear hk
            rcases h4 with rfl | rfl | rfl | rfl
            · cases hc1 : t.inn.contains (whoP ⟨1, n, m⟩)
              · have HC1 := Lib.hid hc1
                have HE := Lib.hid (err7 (t := t) (o := ⟨1, n, m⟩) (by simp) hc1)
                clear hc1
                go_wp2_with ((go_at_call_of 29 (Value.slice A1 t.inn.length n1); refine (containsI _ _ _ _ _ hI3.out).mono ?_; rintro e w' ⟨rfl, rfl⟩; rw [HC1.out]))
                go_meet
                exact cutR_err hI3.out hW3.out BA3.out hXa2 hXW2 HE.out (by decide) (by simp)
              · cases hc2 : t.wait.contains (whoP ⟨1, n, m⟩)
                · have HC1 := Lib.hid hc1
                  have HC2 := Lib.hid hc2
                  by_cases h0 : n < 0
                  · have HE := Lib.hid (err2 (t := t) (o := ⟨1, n, m⟩) rfl hc1 hc2 (.inl h0))
                    clear hc1 hc2
                    go_wp2_with (first | (go_at_call_of 29 (Value.slice A1 t.inn.length n1); refine (containsI _ _ _ _ _ hI3.out).mono ?_; rintro e w' ⟨rfl, rfl⟩; rw [HC1.out]) | (go_at_call_of 29 (Value.slice A2 t.wait.length n2); refine (containsI _ _ _ _ _ hW3.out).mono ?_; rintro e w' ⟨rfl, rfl⟩; rw [HC2.out]))
                    go_meet
                    exact cutR_err hI3.out hW3.out BA3.out hXa2 hXW2 HE.out (by decide) (by simp)
                  by_cases h15 : 15 < n
                  · have HE := Lib.hid (err2 (t := t) (o := ⟨1, n, m⟩) rfl hc1 hc2 (.inr (.inl h15)))
                    clear hc1 hc2
                    go_wp2_with (first | (go_at_call_of 29 (Value.slice A1 t.inn.length n1); refine (containsI _ _ _ _ _ hI3.out).mono ?_; rintro e w' ⟨rfl, rfl⟩; rw [HC1.out]) | (go_at_call_of 29 (Value.slice A2 t.wait.length n2); refine (containsI _ _ _ _ _ hW3.out).mono ?_; rintro e w' ⟨rfl, rfl⟩; rw [HC2.out]))
                    go_meet
                    exact cutR_err hI3.out hW3.out BA3.out hXa2 hXW2 HE.out (by decide) (by simp)
                  cases hc3 : t.inn.contains n
                  · have HC3 := Lib.hid hc3
                    have he0 : errR t ⟨1, n, m⟩ = 0 := err0 (by simp) hc1 hc2 (by simp only [hc3]; simp; omega)
                    have HE := Lib.hid he0
                    have HLR := Lib.hid (show listR t ⟨1, n, m⟩ = ⟨t.inn ++ [n], t.wait, t.ph⟩ by unfold listR; rw [if_neg (by rw [he0]; decide)]; rfl)
                    clear hc1 hc2 hc3 he0
                    have hWz : z + 1 < W.heap.size := by omega
                    have hWz0 : z < W.heap.size := by omega
                    have hWz2 : z + 1 + 1 < W.heap.size := by omega
                    have HXW := Lib.hid hXW2
                    have hWp : ∀ w', Stay W w' → W.heap.size ≤ w'.heap.size := fun w' h => h.size
                    have HWP := Lib.hid hWp
                    clear hWp hXW2
                    have hno : inI n := hok1.out
                    have m3 := Lib.hid (show t.inn.length + [n].length ≤ maxLen by unfold maxLen; simp; omega)
                    have m4 := Lib.hid (show (t.inn.length + [n].length) * 8 ≤ 140737488355328 by simp; omega)
                    go_upto_region 22 with (first | (go_at_call_of 29 (Value.slice A1 t.inn.length n1); refine (containsI _ _ _ _ _ hI3.out).mono ?_; rintro e w' ⟨rfl, rfl⟩; first | rw [HC1.out] | rw [HC3.out]) | (go_at_call_of 29 (Value.slice A2 t.wait.length n2); refine (containsI _ _ _ _ _ hW3.out).mono ?_; rintro e w' ⟨rfl, rfl⟩; rw [HC2.out]))
                    go_region_held3 (fun w' => Stay W w') (first | assumption | exact Stay.mk (Kept.start _) | ((refine Stay.mk ?_; (repeat (with_reducible first | refine Kept.set ?_ (by omega) _ | refine Kept.drew ?_ | refine Kept.alloc ?_ _)); first | exact Kept.refl _ | assumption)))
                      (first
                        | ((go_at_call 30; refine (cloneI t.inn _ X _ (HXW.out.trans (Sub.upto (HWP.out _ (by assumption)))) (hI3.out.keep Flat.keeps (Sub.refl _) (Same.sub (Stay.same (by assumption)) HXW.out))).mono ?_; rintro e wa1 ⟨v1, rfl, ho1, hb1⟩; have ho1 := ho1.rebase (HWP.out _ (by assumption)); have hst1 : Stay W wa1 := Stay.step hb1 (by assumption); have hk1 : Kept W wa1 := Kept.here hst1))
                        | ((refine step_append_list (by rfl) (.tmp 79) (.tmp 82) 70 (by rfl) (by rfl) (by rfl) i1 _ Try.underlying70 hj hy0 hy1 hy2 rfl (by decide) Flat.keeps (l := t.inn) (m := [n]) (base := W.heap.size) (S := Nowhere) (Tx := Nowhere) (U := fun _ => True) (v := v1) (RdL.bare (rdI_one (x := n) ?_ hno trivial) _) ?_ (Sub.nowhere _) (Sub.nowhere _) not_nowhere oneI m3.out m4.out (HWP.out _ (by assumption)) ?_; (first | exact cell_new1 _ _ _ | exact cell_newAt _ _ _ rfl | (refine (Below.cell hb1 ?_).trans (cell_newAt _ _ _ rfl); simp)); (first | exact ho1 | exact OwnL.keep ho1 Flat.keeps ((Below.refl _ _).alloc (Nat.le_refl _) _) | exact OwnL.keep ho1 Flat.keeps ((Below.refl _ _).alloc (Nat.le_refl _) _).drew); intro v2 w2 ho2 hg2 hw2; have hst2 : Stay W w2 := Stay.of ((Stay.below (by assumption)).grown hg2 (HWP.out _ (by assumption)) (fun g hg => (OwnL.lt ho1 g hg).1)); have hk2 : Kept W w2 := Kept.here hst2)))
                    all_goals (try go_wp2_with fail)
                    all_goals go_meet
                    all_goals
                      refine cutR_ok (X' := Plus X W.heap.size w2.heap.size) HE.out ?_ ?_ (Sub.refl _) (BA3.out.below hst2.below) (But.of_below hst2.below)
                      · rw [HLR.out]
                        refine OwnL.toRd ho2 (bytes := 8) Flat.keeps ?_ (Sub.nowhere _) (fun b h1 h2 => .inr ⟨h1, h2⟩)
                        have := m4.out
                        simpa using this
                      · rw [HLR.out]
                        exact (hW3.out.keep Flat.keeps (Sub.refl _) (same_of_below hst2.below HXW.out)).sub Flat.keeps (Sub.plus _ _ _)
                  · have HC3 := Lib.hid hc3
                    have HE := Lib.hid (err2 (t := t) (o := ⟨1, n, m⟩) rfl hc1 hc2 (.inr (.inr hc3)))
                    clear hc1 hc2 hc3
                    go_wp2_with (first | (go_at_call_of 29 (Value.slice A1 t.inn.length n1); refine (containsI _ _ _ _ _ hI3.out).mono ?_; rintro e w' ⟨rfl, rfl⟩; first | rw [HC1.out] | rw [HC3.out]) | (go_at_call_of 29 (Value.slice A2 t.wait.length n2); refine (containsI _ _ _ _ _ hW3.out).mono ?_; rintro e w' ⟨rfl, rfl⟩; rw [HC2.out]))
                    go_meet
                    exact cutR_err hI3.out hW3.out BA3.out hXa2 hXW2 HE.out (by decide) (by simp)
                · have HC1 := Lib.hid hc1
                  have HC2 := Lib.hid hc2
                  have HE := Lib.hid (err8 (t := t) (o := ⟨1, n, m⟩) (by simp) hc1 hc2)
                  clear hc1 hc2
                  go_wp2_with (first | (go_at_call_of 29 (Value.slice A1 t.inn.length n1); refine (containsI _ _ _ _ _ hI3.out).mono ?_; rintro e w' ⟨rfl, rfl⟩; rw [HC1.out]) | (go_at_call_of 29 (Value.slice A2 t.wait.length n2); refine (containsI _ _ _ _ _ hW3.out).mono ?_; rintro e w' ⟨rfl, rfl⟩; rw [HC2.out]))
                  go_meet
                  exact cutR_err hI3.out hW3.out BA3.out hXa2 hXW2 HE.out (by decide) (by simp)
            · cases hc1 : t.inn.contains (whoP ⟨2, n, m⟩)
              · have HC1 := Lib.hid hc1
                have HE := Lib.hid (err7 (t := t) (o := ⟨2, n, m⟩) (by simp) hc1)
                clear hc1
                go_wp2_with ((go_at_call_of 29 (Value.slice A1 t.inn.length n1); refine (containsI _ _ _ _ _ hI3.out).mono ?_; rintro e w' ⟨rfl, rfl⟩; rw [HC1.out]))
                go_meet
                exact cutR_err hI3.out hW3.out BA3.out hXa2 hXW2 HE.out (by decide) (by simp)
              · cases hc2 : t.wait.contains (whoP ⟨2, n, m⟩)
                · have HC1 := Lib.hid hc1
                  have HC2 := Lib.hid hc2
                  have he0 : errR t ⟨2, n, m⟩ = 0 := err0 (by simp) hc1 hc2 (by simp)
                  have HE := Lib.hid he0
                  have HLR := Lib.hid (show listR t ⟨2, n, m⟩ = ⟨t.inn, t.wait ++ [n], t.ph⟩ by unfold listR; rw [if_neg (by rw [he0]; decide)]; rfl)
                  have w0 : W.cell? ⟨z + 1 + 1, 0, none⟩ = some (.int .i64 n) := w0
                  clear hc1 hc2 he0
                  have hWz : z + 1 < W.heap.size := by omega
                  have hWz0 : z < W.heap.size := by omega
                  have hWz2 : z + 1 + 1 < W.heap.size := by omega
                  have HXW := Lib.hid hXW2
                  have hWp : ∀ w', Stay W w' → W.heap.size ≤ w'.heap.size := fun w' h => h.size
                  have HWP := Lib.hid hWp
                  clear hWp hXW2
                  have hno : inI n := hok1.out
                  have m3 := Lib.hid (show t.wait.length + [n].length ≤ maxLen by unfold maxLen; simp; omega)
                  have m4 := Lib.hid (show (t.wait.length + [n].length) * 8 ≤ 140737488355328 by simp; omega)
                  go_upto_region 24 with (first | (go_at_call_of 29 (Value.slice A1 t.inn.length n1); refine (containsI _ _ _ _ _ hI3.out).mono ?_; rintro e w' ⟨rfl, rfl⟩; first | rw [HC1.out] | fail) | (go_at_call_of 29 (Value.slice A2 t.wait.length n2); refine (containsI _ _ _ _ _ hW3.out).mono ?_; rintro e w' ⟨rfl, rfl⟩; rw [HC2.out]))
                  go_region_held3 (fun w' => Stay W w') (first | assumption | exact Stay.mk (Kept.start _) | ((refine Stay.mk ?_; (repeat (with_reducible first | refine Kept.set ?_ (by omega) _ | refine Kept.drew ?_ | refine Kept.alloc ?_ _)); first | exact Kept.refl _ | assumption)))
                    (first
                      | ((go_at_call 30; refine (cloneI t.wait _ X _ (HXW.out.trans (Sub.upto (HWP.out _ (by assumption)))) (hW3.out.keep Flat.keeps (Sub.refl _) (Same.sub (Stay.same (by assumption)) HXW.out))).mono ?_; rintro e wa1 ⟨v1, rfl, ho1, hb1⟩; have ho1 := ho1.rebase (HWP.out _ (by assumption)); have hst1 : Stay W wa1 := Stay.step hb1 (by assumption); have hk1 : Kept W wa1 := Kept.here hst1))
                      | ((refine step_append_list (by rfl) (.tmp 89) (.tmp 91) 70 (by rfl) (by rfl) (by rfl) i1 _ Try.underlying70 hj hy0 hy1 hy2 rfl (by decide) Flat.keeps (l := t.wait) (m := [n]) (base := W.heap.size) (S := Nowhere) (Tx := Nowhere) (U := fun _ => True) (v := v1) (RdL.bare (rdI_one (x := n) ?_ hno trivial) _) ?_ (Sub.nowhere _) (Sub.nowhere _) not_nowhere oneI m3.out m4.out (HWP.out _ (by assumption)) ?_; (first | exact cell_new1 _ _ _ | exact cell_newAt _ _ _ rfl | (refine (Below.cell hb1 ?_).trans (cell_newAt _ _ _ rfl); simp)); (first | exact ho1 | exact OwnL.keep ho1 Flat.keeps ((Below.refl _ _).alloc (Nat.le_refl _) _) | exact OwnL.keep ho1 Flat.keeps ((Below.refl _ _).alloc (Nat.le_refl _) _).drew); intro v2 w2 ho2 hg2 hw2; have hst2 : Stay W w2 := Stay.of ((Stay.below (by assumption)).grown hg2 (HWP.out _ (by assumption)) (fun g hg => (OwnL.lt ho1 g hg).1)); have hk2 : Kept W w2 := Kept.here hst2)))
                  all_goals (try go_wp2_with fail)
                  all_goals go_meet
                  all_goals
                    refine cutR_ok (X' := Plus X W.heap.size w2.heap.size) HE.out ?_ ?_ (Sub.refl _) (BA3.out.below hst2.below) (But.of_below hst2.below)
                    · rw [HLR.out]
                      exact (hI3.out.keep Flat.keeps (Sub.refl _) (same_of_below hst2.below HXW.out)).sub Flat.keeps (Sub.plus _ _ _)
                    · rw [HLR.out]
                      refine OwnL.toRd ho2 (bytes := 8) Flat.keeps ?_ (Sub.nowhere _) (fun b h1 h2 => .inr ⟨h1, h2⟩)
                      have := m4.out
                      simpa using this
                · have HC1 := Lib.hid hc1
                  have HC2 := Lib.hid hc2
                  have HE := Lib.hid (err8 (t := t) (o := ⟨2, n, m⟩) (by simp) hc1 hc2)
                  clear hc1 hc2
                  go_wp2_with (first | (go_at_call_of 29 (Value.slice A1 t.inn.length n1); refine (containsI _ _ _ _ _ hI3.out).mono ?_; rintro e w' ⟨rfl, rfl⟩; rw [HC1.out]) | (go_at_call_of 29 (Value.slice A2 t.wait.length n2); refine (containsI _ _ _ _ _ hW3.out).mono ?_; rintro e w' ⟨rfl, rfl⟩; rw [HC2.out]))
                  go_meet
                  exact cutR_err hI3.out hW3.out BA3.out hXa2 hXW2 HE.out (by decide) (by simp)
            · cases hc1 : t.inn.contains (whoP ⟨3, n, m⟩)
              · have HC1 := Lib.hid hc1
                have HE := Lib.hid (err7 (t := t) (o := ⟨3, n, m⟩) (by simp) hc1)
                clear hc1
                go_wp2_with ((go_at_call_of 29 (Value.slice A1 t.inn.length n1); refine (containsI _ _ _ _ _ hI3.out).mono ?_; rintro e w' ⟨rfl, rfl⟩; rw [HC1.out]))
                go_meet
                exact cutR_err hI3.out hW3.out BA3.out hXa2 hXW2 HE.out (by decide) (by simp)
              · cases hc2 : t.wait.contains (whoP ⟨3, n, m⟩)
                · have HC1 := Lib.hid hc1
                  have HC2 := Lib.hid hc2
                  have he0 : errR t ⟨3, n, m⟩ = 0 := err0 (by simp) hc1 hc2 (by simp)
                  have HE := Lib.hid he0
                  have HLR := Lib.hid (show listR t ⟨3, n, m⟩ = ⟨t.inn.filter fun y => !decide (y = n), t.wait, t.ph⟩ by unfold listR; rw [if_neg (by rw [he0]; decide)]; rfl)
                  have w0 : W.cell? ⟨z + 1 + 1, 0, none⟩ = some (.int .i64 n) := w0
                  have hpos : 0 < t.inn.length := List.length_pos_of_mem (List.contains_iff_mem.1 hc1)
                  have hzW : z + 1 + 1 < W.heap.size := by omega
                  have HPOS := Lib.hid hpos
                  have HXW := Lib.hid hXW2
                  clear hc1 hc2 he0 hpos hXW2
                  go_wp2_with (first | (go_at_call_of 29 (Value.slice A1 t.inn.length n1); refine (containsI _ _ _ _ _ hI3.out).mono ?_; rintro e w' ⟨rfl, rfl⟩; rw [HC1.out]) | (go_at_call_of 29 (Value.slice A2 t.wait.length n2); refine (containsI _ _ _ _ _ hW3.out).mono ?_; rintro e w' ⟨rfl, rfl⟩; rw [HC2.out]) | (go_at_call 30; refine (cloneI t.inn _ X _ HXW.out hI3.out).mono ?_; rintro e wa1 ⟨v1, rfl, ho1, hb1⟩; obtain ⟨g, cg, rfl, hg1, hg2, hg3, hg4, hg5, hg6⟩ := OwnI.open_ ho1 HPOS.out; have HG5 := Lib.hid hg5; have HG6 := Lib.hid hg6; clear hg5 hg6 ho1) | (go_at_call 31; refine (del_any t.inn (fun y hy => by obtain ⟨j, hj, rfl⟩ := List.getElem_of_mem hy; exact (HG6.out j hj).1) n (z + 1 + 1) g cg _ (Nat.lt_of_lt_of_le hzW hb1.size) (by omega) ((hb1.cell (p := ⟨z + 1 + 1, 0, none⟩) hzW).trans w0) hg2 HG5.out (fun j hj => (HG6.out j hj).2) hg3 hg4 hby1).mono ?_; rintro e wb1 ⟨v2, rfl, hr2, hb2⟩))
                  go_meet
                  have hb3 := hb1.trans (hb2.below (B := W.heap.size) hb1.size (fun k e => by unfold Is at e; omega))
                  have hs3 := hb2.size
                  refine cutR_ok (X' := Plus X W.heap.size wb1.heap.size) HE.out ?_ ?_ (Sub.refl _) (BA3.out.below hb3) (But.of_below hb3)
                  · rw [HLR.out]
                    exact hr2.sub Flat.keeps (fun b e => by unfold Is at e; subst e; exact .inr ⟨hg1, by omega⟩)
                  · rw [HLR.out]
                    exact (hW3.out.keep Flat.keeps (Sub.refl _) (same_of_below hb3 HXW.out)).sub Flat.keeps (Sub.plus _ _ _)
                · have HC1 := Lib.hid hc1
                  have HC2 := Lib.hid hc2
                  have HE := Lib.hid (err8 (t := t) (o := ⟨3, n, m⟩) (by simp) hc1 hc2)
                  clear hc1 hc2
                  go_wp2_with (first | (go_at_call_of 29 (Value.slice A1 t.inn.length n1); refine (containsI _ _ _ _ _ hI3.out).mono ?_; rintro e w' ⟨rfl, rfl⟩; rw [HC1.out]) | (go_at_call_of 29 (Value.slice A2 t.wait.length n2); refine (containsI _ _ _ _ _ hW3.out).mono ?_; rintro e w' ⟨rfl, rfl⟩; rw [HC2.out]))
                  go_meet
                  exact cutR_err hI3.out hW3.out BA3.out hXa2 hXW2 HE.out (by decide) (by simp)
            · cases hc1 : t.inn.contains (whoP ⟨4, n, m⟩)
              · have HC1 := Lib.hid hc1
                have HE := Lib.hid (err7 (t := t) (o := ⟨4, n, m⟩) (by simp) hc1)
                clear hc1
                go_wp2_with ((go_at_call_of 29 (Value.slice A1 t.inn.length n1); refine (containsI _ _ _ _ _ hI3.out).mono ?_; rintro e w' ⟨rfl, rfl⟩; rw [HC1.out]))
                go_meet
                exact cutR_err hI3.out hW3.out BA3.out hXa2 hXW2 HE.out (by decide) (by simp)
              · cases hc2 : t.wait.contains (whoP ⟨4, n, m⟩)
                · have HC1 := Lib.hid hc1
                  have HC2 := Lib.hid hc2
                  have he0 : errR t ⟨4, n, m⟩ = 0 := err0 (by simp) hc1 hc2 (by simp)
                  have HE := Lib.hid he0
                  have HLR := Lib.hid (show listR t ⟨4, n, m⟩ = t by unfold listR; rw [if_neg (by rw [he0]; decide)]; rfl)
                  clear hc1 hc2 he0
                  go_wp2_with (first | (go_at_call_of 29 (Value.slice A1 t.inn.length n1); refine (containsI _ _ _ _ _ hI3.out).mono ?_; rintro e w' ⟨rfl, rfl⟩; rw [HC1.out]) | (go_at_call_of 29 (Value.slice A2 t.wait.length n2); refine (containsI _ _ _ _ _ hW3.out).mono ?_; rintro e w' ⟨rfl, rfl⟩; rw [HC2.out]))
                  go_meet
                  exact cutR_ok (X' := X) HE.out (by rw [HLR.out]; exact hI3.out) (by rw [HLR.out]; exact hW3.out) (Sub.plus _ _ _) BA3.out (But.refl _ _)
                · have HC1 := Lib.hid hc1
                  have HC2 := Lib.hid hc2
                  have HE := Lib.hid (err8 (t := t) (o := ⟨4, n, m⟩) (by simp) hc1 hc2)
                  clear hc1 hc2
                  go_wp2_with (first | (go_at_call_of 29 (Value.slice A1 t.inn.length n1); refine (containsI _ _ _ _ _ hI3.out).mono ?_; rintro e w' ⟨rfl, rfl⟩; rw [HC1.out]) | (go_at_call_of 29 (Value.slice A2 t.wait.length n2); refine (containsI _ _ _ _ _ hW3.out).mono ?_; rintro e w' ⟨rfl, rfl⟩; rw [HC2.out]))
                  go_meet
                  exact cutR_err8 hI3.out hW3.out BA3.out hXa2 hXW2 HE.out rfl
        case rest =>
          obtain ⟨X', RI4, RW4, hXs4, BA4, hk4⟩ := hcut
          have hz5 := hk4.size
          have HO4 := Lib.hid (HO3.out.but hk4 (fun g hg e => by have := HOz.out g hg; unfold Is at e; omega))
          have hb4 := Lib.hid (hb3.out.trans (hk4.below (B := w.heap.size) (by omega) (fun k e => by unfold Is at e; omega)))
          have hXl := Lib.hid (show Sub X' (Upto wc.heap.size) from hXs4.out.trans (Sub.plus_upto (hXz.out.trans (Sub.upto (by omega)))))
          have hXg := Lib.hid (show Sub X' (Plus Nowhere w.heap.size wc.heap.size) from fun b hb => by
            rcases hXs4.out b hb with h | h
            · rcases hXs.out b h with h2 | h2
              · exact h2.elim
              · exact .inr ⟨h2.1, by have := hXz.out b h; simp only [Upto] at this; omega⟩
            · exact .inr ⟨by omega, h.2⟩)
          have hX4 := Lib.hid (show ∀ k, u6.ownBlock = some k → ¬ X' k from fun g hg hx => by
            have := HOz.out g hg
            rcases hXs4.out g hx with h | h
            · exact hX.out g hg h
            · omega)
          have hwz : w.heap.size ≤ wc.heap.size := by omega
          have hXne := Lib.hid (show ¬ X' (z + 1) from fun h => by
            rcases hXs4.out _ h with h | h
            · have := hXz.out _ h; simp only [Upto] at this; omega
            · omega)
          have hz1c : z + 1 < wc.heap.size := BA4.out.lt
          clear hk4 HO3 hb3 hI3 hW3 BO3 BA3 BW1 o0 o1 a0 f0 f1 w0 hXs4 hXs hX hXz hz5 HR
          obtain ⟨W4, hW8⟩ : ∃ x, x = wc := ⟨wc, rfl⟩
          subst hW8
          have HDO := Lib.hid (show doR t ⟨k, n, m⟩ = (turnR (listR t ⟨k, n, m⟩), errR t ⟨k, n, m⟩, if errR t ⟨k, n, m⟩ = 0 then ((turnR (listR t ⟨k, n, m⟩)).ph : Int) else if errR t ⟨k, n, m⟩ = 8 ∧ k = 4 then (t.ph : Int) else 0) from rfl)
          have hphL : (listR t ⟨k, n, m⟩).ph = t.ph := by unfold listR; repeat' split
                                                          all_goals rfl
          generalize listR t ⟨k, n, m⟩ = t' at *
          generalize hec : errR t ⟨k, n, m⟩ = ec at *
          have HEC := Lib.hid hec
          clear hec
          obtain ⟨A5, n5, hv5⟩ := RI4.out.form
          obtain ⟨rfl, hl5, hcm5, hby5⟩ := hv5
          obtain ⟨A6, n6, hv6⟩ := RW4.out.form
          obtain ⟨rfl, hl6, hcm6, hby6⟩ := hv6
          have a0 := BA4.out.cell 0 _ rfl
          have f1 := BA4.out.fr 1
          have HPL := Lib.hid hphL
          clear hphL
          have HIN := Lib.hid (show (turnR t').inn = t'.inn by unfold turnR; split <;> rfl)
          by_cases hp : 0 < t'.inn.length
          · by_cases he : t'.inn.length = t'.wait.length
            · have HPH := Lib.hid (show ((turnR t').ph : Int) = (t.ph : Int) + 1 by unfold turnR; rw [if_pos ⟨hp, he⟩]; show ((t'.ph + 1 : Nat) : Int) = _; rw [HPL.out]; omega)
              have hp2 : (0 : Int) < (t'.wait.length : Int) := by omega
              have hph2 : t.ph < 9223372036854775807 := by omega
              have RW5 := Lib.hid (show RdI (W4.alloc (.cells #[] 3)) X' (turnR t').wait (.slice (some ⟨W4.heap.size, 0, none⟩) 0 0) by unfold turnR; rw [if_pos ⟨hp, he⟩]; exact RdL.nil (by simp [maxLen]))
              have RI4 := Lib.hid (show RdI W4 X' t'.inn (.slice A5 t'.wait.length n5) by have h := RI4.out; rw [he] at h; exact h)
              rw [he]
              clear hp he hl5
              go_upto_region 29 with (fail)
              have B5 : Below W4.heap.size W4 (W4.alloc (.cells #[] 3)) := (Below.refl _ _).alloc (Nat.le_refl _) _
              obtain ⟨g5, hg5⟩ : ∃ g5, g5 = W4.heap.size := ⟨_, rfl⟩
              rw [← hg5] at RW5 ⊢
              clear hg5
              have HBB := Lib.hid (hb4.out.trans (B5.mono hb4.out.size))
              have HO5 := Lib.hid (HO4.out.keep Flat.keeps B5)
              have BA5 := Lib.hid (BA4.out.below B5)
              have RI5 := Lib.hid (RI4.out.keep Flat.keeps (Sub.refl _) (same_of_below B5 hXl.out))
              have hz6 := B5.size
              clear B5 HO4 BA4 RI4 RW4 hb4 a0 f1
              generalize W4.alloc (.cells #[] 3) = W5 at *
              have a0 := BA5.out.cell 0 _ rfl
              have f1 := BA5.out.fr 1
              have c1' := BA5.out.cell 1 _ rfl
              go_upto_if 116 with (fail)
              go_cut [] (fun wx => Hid (Blk 0 wx (z + 1) [.int .i64 (doR t ⟨k, n, m⟩).2.1, .int .i64 (doR t ⟨k, n, m⟩).2.2]) ∧ But (Is (z + 1)) W5 wx)
              case first =>
                by_cases h0 : ec = 0
                · have HF := Lib.hid (show (doR t ⟨k, n, m⟩).2.2 = (t.ph : Int) + 1 by rw [HDO.out]; show (if ec = 0 then _ else _) = _; rw [if_pos h0, HPH.out])
                  have HG := Lib.hid (show (doR t ⟨k, n, m⟩).2.1 = ec by rw [HDO.out])
                  subst h0
                  go_wp2
                  go_meet
                  rw [HF.out, HG.out]
                  exact ⟨Lib.hid (BA5.out.set (i := 1) (by simp) _), (But.refl (Is (z + 1)) _).setCell (p := ⟨z + 1, 1, none⟩) rfl _⟩
                · have HF := Lib.hid (show (doR t ⟨k, n, m⟩).2.2 = if ec = 8 ∧ k = 4 then (t.ph : Int) else 0 by rw [HDO.out]; show (if ec = 0 then _ else _) = _; rw [if_neg h0])
                  have HG := Lib.hid (show (doR t ⟨k, n, m⟩).2.1 = ec by rw [HDO.out])
                  have e0 : (ec == 0) = false := by simpa using h0
                  go_wp2
                  go_meet
                  rw [HF.out, HG.out]
                  exact ⟨Lib.hid BA5.out, But.refl _ _⟩
              case rest =>
                obtain ⟨BA6, hk6⟩ := hcut
                have hz7 := hk6.size
                have HO6 := Lib.hid (HO5.out.but hk6 (fun g hg e => by have := HOz.out g hg; unfold Is at e; omega))
                have hb6 := Lib.hid (HBB.out.trans (hk6.below (B := w.heap.size) (by omega) (fun k e => by unfold Is at e; omega)))
                have hXn := Lib.hid (fun b hx e => by unfold Is at e; subst e; exact hXne.out hx : ∀ b, X' b → ¬ Is (z + 1) b)
                have RI6 := Lib.hid (RI5.out.keep Flat.keeps (Sub.refl _) (hk6.same (hXl.out.trans (Sub.upto hz6)) hXn.out))
                have RW6 := Lib.hid (RW5.out.keep Flat.keeps (Sub.refl _) (hk6.same (hXl.out.trans (Sub.upto hz6)) hXn.out))
                have b0' := BA6.out.cell 0 _ rfl
                have b1' := BA6.out.cell 1 _ rfl
                have hwz7 : w.heap.size ≤ wc.heap.size := by omega
                clear hk6 HO5 HBB RI5 RW5 BA5 a0 f1 c1' hXn
                go_wp2_with (at_builtin; refine wpList_append_one rfl _ _ 30 rfl i0 _ Try.underlying30 hi hz0 hz1 hz2 rfl (by decide) Flat.keeps HO6.out (x := (doR t ⟨k, n, m⟩).2) (cs := [Value.int .i64 (doR t ⟨k, n, m⟩).2.1, Value.int .i64 (doR t ⟨k, n, m⟩).2.2]) (Tx := Nowhere) ?c0a rfl rfl rfl (Sub.nowhere _) (Sub.nowhere _) not_nowhere ?c1a ?c2a ?c3a ?c4a ?_)
                case c0a => exact ⟨rfl, HANS.out⟩
                case c1a => simp [Value.oneCell']
                case c2a => rw [HL.out]; simp [maxLen]; omega
                case c3a => rw [HL.out]; omega
                try (case c4a => exact hwz7)
                intro v2 w3 ho4 hg4 hown
                have hz8 := hg4.size
                have e1 : (runR (ops.take (q + 1))).1 = turnR t' := by rw [HT.out, runR_snoc, HST.out]; show (doR t ⟨k, n, m⟩).1 = _; rw [HDO.out]
                have e2 : (runR (ops.take (q + 1))).2 = an ++ [(doR t ⟨k, n, m⟩).2] := by rw [HT.out, runR_snoc, HST.out]
                have hD4 := Lib.hid (show RdI w3 X' (runR (ops.take (q + 1))).1.inn (.slice A5 t'.wait.length n5) by
                  rw [e1, HIN.out]
                  exact RI6.out.keep Flat.keeps (Sub.refl _) ((But.of_grown hg4).same (hXl.out.trans (Sub.upto (by omega))) (fun b hx e => hX4.out b e hx)))
                have hE4 := Lib.hid (show RdI w3 X' (runR (ops.take (q + 1))).1.wait (Value.slice (some ⟨g5, 0, none⟩) 0 0) by
                  rw [e1]
                  exact RW6.out.keep Flat.keeps (Sub.refl _) ((But.of_grown hg4).same (hXl.out.trans (Sub.upto (by omega))) (fun b hx e => hX4.out b e hx)))
                have HP4 := Lib.hid (show ((runR (ops.take (q + 1))).1.ph : Int) = (t.ph : Int) + 1 by rw [e1, HPH.out])
                have HO7 := Lib.hid (show OwnP 33 w3 w.heap.size Nowhere (runR (ops.take (q + 1))).2 v2 by rw [e2]; exact ho4)
                have HX7 := Lib.hid (show ∀ k, v2.ownBlock = some k → ¬ X' k from fun g hg hx => by
                  rcases hown with h | h
                  · rw [h] at hg; exact hX4.out g hg hx
                  · rw [h] at hg
                    injection hg with hg
                    have := hXl.out g hx
                    simp only [Upto] at this
                    omega)
                have hXs7 := Lib.hid (show Sub X' (Plus Nowhere w.heap.size w3.heap.size) from hXg.out.trans (Sub.plus_mono (Nat.le_refl _) (by omega)))
                have hb7 : Below w.heap.size w w3 := hb6.out.grown hg4 hb6.out.size (fun g hg => (HO6.out.lt g hg).1)
                clear ho4 hg4 hown hb6 HO6 RI6 RW6 hX4 HT HL hXg hXl b0' b1' BA6 e1 e2
                go_wp2
                go_roundw
                case rel => exact ⟨q + 1, X', by omega, by go_num, by rw [HP4.out], HO7.out, hD4, hE4, hXs7, HX7, hb7⟩
                case measure => simp [intOf]; omega
            · have HPH := Lib.hid (show ((turnR t').ph : Int) = (t.ph : Int) by unfold turnR; rw [if_neg (fun h => he h.2), HPL.out])
              have he2 : ((t'.inn.length : Int) == (t'.wait.length : Int)) = false := by simp; omega
              have hp2 : (0 : Int) < (t'.inn.length : Int) := by omega
              have RW5 := Lib.hid (show RdI W4 X' (turnR t').wait (.slice A6 t'.wait.length n6) by unfold turnR; rw [if_neg (fun h => he h.2)]; exact RW4.out)
              clear hp he
              go_upto_region 29 with (fail)
              have B5 : Below W4.heap.size W4 W4 := Below.refl _ _
              have HBB := Lib.hid (hb4.out.trans (B5.mono hb4.out.size))
              have HO5 := Lib.hid (HO4.out.keep Flat.keeps B5)
              have BA5 := Lib.hid (BA4.out.below B5)
              have RI5 := Lib.hid (RI4.out.keep Flat.keeps (Sub.refl _) (same_of_below B5 hXl.out))
              have hz6 := B5.size
              clear B5 HO4 BA4 RI4 RW4 hb4 a0 f1
              generalize W4 = W5 at *
              have a0 := BA5.out.cell 0 _ rfl
              have f1 := BA5.out.fr 1
              have c1' := BA5.out.cell 1 _ rfl
              go_upto_if 116 with (fail)
              go_cut [] (fun wx => Hid (Blk 0 wx (z + 1) [.int .i64 (doR t ⟨k, n, m⟩).2.1, .int .i64 (doR t ⟨k, n, m⟩).2.2]) ∧ But (Is (z + 1)) W5 wx)
              case first =>
                by_cases h0 : ec = 0
                · have HF := Lib.hid (show (doR t ⟨k, n, m⟩).2.2 = (t.ph : Int) by rw [HDO.out]; show (if ec = 0 then _ else _) = _; rw [if_pos h0, HPH.out])
                  have HG := Lib.hid (show (doR t ⟨k, n, m⟩).2.1 = ec by rw [HDO.out])
                  subst h0
                  go_wp2
                  go_meet
                  rw [HF.out, HG.out]
                  exact ⟨Lib.hid (BA5.out.set (i := 1) (by simp) _), (But.refl (Is (z + 1)) _).setCell (p := ⟨z + 1, 1, none⟩) rfl _⟩
                · have HF := Lib.hid (show (doR t ⟨k, n, m⟩).2.2 = if ec = 8 ∧ k = 4 then (t.ph : Int) else 0 by rw [HDO.out]; show (if ec = 0 then _ else _) = _; rw [if_neg h0])
                  have HG := Lib.hid (show (doR t ⟨k, n, m⟩).2.1 = ec by rw [HDO.out])
                  have e0 : (ec == 0) = false := by simpa using h0
                  go_wp2
                  go_meet
                  rw [HF.out, HG.out]
                  exact ⟨Lib.hid BA5.out, But.refl _ _⟩
              case rest =>
                obtain ⟨BA6, hk6⟩ := hcut
                have hz7 := hk6.size
                have HO6 := Lib.hid (HO5.out.but hk6 (fun g hg e => by have := HOz.out g hg; unfold Is at e; omega))
                have hb6 := Lib.hid (HBB.out.trans (hk6.below (B := w.heap.size) (by omega) (fun k e => by unfold Is at e; omega)))
                have hXn := Lib.hid (fun b hx e => by unfold Is at e; subst e; exact hXne.out hx : ∀ b, X' b → ¬ Is (z + 1) b)
                have RI6 := Lib.hid (RI5.out.keep Flat.keeps (Sub.refl _) (hk6.same (hXl.out.trans (Sub.upto hz6)) hXn.out))
                have RW6 := Lib.hid (RW5.out.keep Flat.keeps (Sub.refl _) (hk6.same (hXl.out.trans (Sub.upto hz6)) hXn.out))
                have b0' := BA6.out.cell 0 _ rfl
                have b1' := BA6.out.cell 1 _ rfl
                have hwz7 : w.heap.size ≤ wc.heap.size := by omega
                clear hk6 HO5 HBB RI5 RW5 BA5 a0 f1 c1' hXn
                go_wp2_with (at_builtin; refine wpList_append_one rfl _ _ 30 rfl i0 _ Try.underlying30 hi hz0 hz1 hz2 rfl (by decide) Flat.keeps HO6.out (x := (doR t ⟨k, n, m⟩).2) (cs := [Value.int .i64 (doR t ⟨k, n, m⟩).2.1, Value.int .i64 (doR t ⟨k, n, m⟩).2.2]) (Tx := Nowhere) ?c0b rfl rfl rfl (Sub.nowhere _) (Sub.nowhere _) not_nowhere ?c1b ?c2b ?c3b ?c4b ?_)
                case c0b => exact ⟨rfl, HANS.out⟩
                case c1b => simp [Value.oneCell']
                case c2b => rw [HL.out]; simp [maxLen]; omega
                case c3b => rw [HL.out]; omega
                try (case c4b => exact hwz7)
                intro v2 w3 ho4 hg4 hown
                have hz8 := hg4.size
                have e1 : (runR (ops.take (q + 1))).1 = turnR t' := by rw [HT.out, runR_snoc, HST.out]; show (doR t ⟨k, n, m⟩).1 = _; rw [HDO.out]
                have e2 : (runR (ops.take (q + 1))).2 = an ++ [(doR t ⟨k, n, m⟩).2] := by rw [HT.out, runR_snoc, HST.out]
                have hD4 := Lib.hid (show RdI w3 X' (runR (ops.take (q + 1))).1.inn (.slice A5 t'.inn.length n5) by
                  rw [e1, HIN.out]
                  exact RI6.out.keep Flat.keeps (Sub.refl _) ((But.of_grown hg4).same (hXl.out.trans (Sub.upto (by omega))) (fun b hx e => hX4.out b e hx)))
                have hE4 := Lib.hid (show RdI w3 X' (runR (ops.take (q + 1))).1.wait (Value.slice A6 t'.wait.length n6) by
                  rw [e1]
                  exact RW6.out.keep Flat.keeps (Sub.refl _) ((But.of_grown hg4).same (hXl.out.trans (Sub.upto (by omega))) (fun b hx e => hX4.out b e hx)))
                have HP4 := Lib.hid (show ((runR (ops.take (q + 1))).1.ph : Int) = (t.ph : Int) by rw [e1, HPH.out])
                have HO7 := Lib.hid (show OwnP 33 w3 w.heap.size Nowhere (runR (ops.take (q + 1))).2 v2 by rw [e2]; exact ho4)
                have HX7 := Lib.hid (show ∀ k, v2.ownBlock = some k → ¬ X' k from fun g hg hx => by
                  rcases hown with h | h
                  · rw [h] at hg; exact hX4.out g hg hx
                  · rw [h] at hg
                    injection hg with hg
                    have := hXl.out g hx
                    simp only [Upto] at this
                    omega)
                have hXs7 := Lib.hid (show Sub X' (Plus Nowhere w.heap.size w3.heap.size) from hXg.out.trans (Sub.plus_mono (Nat.le_refl _) (by omega)))
                have hb7 : Below w.heap.size w w3 := hb6.out.grown hg4 hb6.out.size (fun g hg => (HO6.out.lt g hg).1)
                clear ho4 hg4 hown hb6 HO6 RI6 RW6 hX4 HT HL hXg hXl b0' b1' BA6 e1 e2
                go_wp2
                go_roundw
                case rel => exact ⟨q + 1, X', by omega, by go_num, by rw [HP4.out], HO7.out, hD4, hE4, hXs7, HX7, hb7⟩
                case measure => simp [intOf]; omega
          · have HPH := Lib.hid (show ((turnR t').ph : Int) = (t.ph : Int) by unfold turnR; rw [if_neg (fun h => hp h.1), HPL.out])
            have hp2 : ¬ (0 : Int) < (t'.inn.length : Int) := by omega
            have RW5 := Lib.hid (show RdI W4 X' (turnR t').wait (.slice A6 t'.wait.length n6) by unfold turnR; rw [if_neg (fun h => hp h.1)]; exact RW4.out)
            clear hp
            go_upto_region 29 with (fail)
            have B5 : Below W4.heap.size W4 W4 := Below.refl _ _
            have HBB := Lib.hid (hb4.out.trans (B5.mono hb4.out.size))
            have HO5 := Lib.hid (HO4.out.keep Flat.keeps B5)
            have BA5 := Lib.hid (BA4.out.below B5)
            have RI5 := Lib.hid (RI4.out.keep Flat.keeps (Sub.refl _) (same_of_below B5 hXl.out))
            have hz6 := B5.size
            clear B5 HO4 BA4 RI4 RW4 hb4 a0 f1
            generalize W4 = W5 at *
            have a0 := BA5.out.cell 0 _ rfl
            have f1 := BA5.out.fr 1
            have c1' := BA5.out.cell 1 _ rfl
            go_upto_if 116 with (fail)
            go_cut [] (fun wx => Hid (Blk 0 wx (z + 1) [.int .i64 (doR t ⟨k, n, m⟩).2.1, .int .i64 (doR t ⟨k, n, m⟩).2.2]) ∧ But (Is (z + 1)) W5 wx)
            case first =>
              by_cases h0 : ec = 0
              · have HF := Lib.hid (show (doR t ⟨k, n, m⟩).2.2 = (t.ph : Int) by rw [HDO.out]; show (if ec = 0 then _ else _) = _; rw [if_pos h0, HPH.out])
                have HG := Lib.hid (show (doR t ⟨k, n, m⟩).2.1 = ec by rw [HDO.out])
                subst h0
                go_wp2
                go_meet
                rw [HF.out, HG.out]
                exact ⟨Lib.hid (BA5.out.set (i := 1) (by simp) _), (But.refl (Is (z + 1)) _).setCell (p := ⟨z + 1, 1, none⟩) rfl _⟩
              · have HF := Lib.hid (show (doR t ⟨k, n, m⟩).2.2 = if ec = 8 ∧ k = 4 then (t.ph : Int) else 0 by rw [HDO.out]; show (if ec = 0 then _ else _) = _; rw [if_neg h0])
                have HG := Lib.hid (show (doR t ⟨k, n, m⟩).2.1 = ec by rw [HDO.out])
                have e0 : (ec == 0) = false := by simpa using h0
                go_wp2
                go_meet
                rw [HF.out, HG.out]
                exact ⟨Lib.hid BA5.out, But.refl _ _⟩
            case rest =>
              obtain ⟨BA6, hk6⟩ := hcut
              have hz7 := hk6.size
              have HO6 := Lib.hid (HO5.out.but hk6 (fun g hg e => by have := HOz.out g hg; unfold Is at e; omega))
              have hb6 := Lib.hid (HBB.out.trans (hk6.below (B := w.heap.size) (by omega) (fun k e => by unfold Is at e; omega)))
              have hXn := Lib.hid (fun b hx e => by unfold Is at e; subst e; exact hXne.out hx : ∀ b, X' b → ¬ Is (z + 1) b)
              have RI6 := Lib.hid (RI5.out.keep Flat.keeps (Sub.refl _) (hk6.same (hXl.out.trans (Sub.upto hz6)) hXn.out))
              have RW6 := Lib.hid (RW5.out.keep Flat.keeps (Sub.refl _) (hk6.same (hXl.out.trans (Sub.upto hz6)) hXn.out))
              have b0' := BA6.out.cell 0 _ rfl
              have b1' := BA6.out.cell 1 _ rfl
              have hwz7 : w.heap.size ≤ wc.heap.size := by omega
              clear hk6 HO5 HBB RI5 RW5 BA5 a0 f1 c1' hXn
              go_wp2_with (at_builtin; refine wpList_append_one rfl _ _ 30 rfl i0 _ Try.underlying30 hi hz0 hz1 hz2 rfl (by decide) Flat.keeps HO6.out (x := (doR t ⟨k, n, m⟩).2) (cs := [Value.int .i64 (doR t ⟨k, n, m⟩).2.1, Value.int .i64 (doR t ⟨k, n, m⟩).2.2]) (Tx := Nowhere) ?c0c rfl rfl rfl (Sub.nowhere _) (Sub.nowhere _) not_nowhere ?c1c ?c2c ?c3c ?c4c ?_)
              case c0c => exact ⟨rfl, HANS.out⟩
              case c1c => simp [Value.oneCell']
              case c2c => rw [HL.out]; simp [maxLen]; omega
              case c3c => rw [HL.out]; omega
              try (case c4c => exact hwz7)
              intro v2 w3 ho4 hg4 hown
              have hz8 := hg4.size
              have e1 : (runR (ops.take (q + 1))).1 = turnR t' := by rw [HT.out, runR_snoc, HST.out]; show (doR t ⟨k, n, m⟩).1 = _; rw [HDO.out]
              have e2 : (runR (ops.take (q + 1))).2 = an ++ [(doR t ⟨k, n, m⟩).2] := by rw [HT.out, runR_snoc, HST.out]
              have hD4 := Lib.hid (show RdI w3 X' (runR (ops.take (q + 1))).1.inn (.slice A5 t'.inn.length n5) by
                rw [e1, HIN.out]
                exact RI6.out.keep Flat.keeps (Sub.refl _) ((But.of_grown hg4).same (hXl.out.trans (Sub.upto (by omega))) (fun b hx e => hX4.out b e hx)))
              have hE4 := Lib.hid (show RdI w3 X' (runR (ops.take (q + 1))).1.wait (Value.slice A6 t'.wait.length n6) by
                rw [e1]
                exact RW6.out.keep Flat.keeps (Sub.refl _) ((But.of_grown hg4).same (hXl.out.trans (Sub.upto (by omega))) (fun b hx e => hX4.out b e hx)))
              have HP4 := Lib.hid (show ((runR (ops.take (q + 1))).1.ph : Int) = (t.ph : Int) by rw [e1, HPH.out])
              have HO7 := Lib.hid (show OwnP 33 w3 w.heap.size Nowhere (runR (ops.take (q + 1))).2 v2 by rw [e2]; exact ho4)
              have HX7 := Lib.hid (show ∀ k, v2.ownBlock = some k → ¬ X' k from fun g hg hx => by
                rcases hown with h | h
                · rw [h] at hg; exact hX4.out g hg hx
                · rw [h] at hg
                  injection hg with hg
                  have := hXl.out g hx
                  simp only [Upto] at this
                  omega)
              have hXs7 := Lib.hid (show Sub X' (Plus Nowhere w.heap.size w3.heap.size) from hXg.out.trans (Sub.plus_mono (Nat.le_refl _) (by omega)))
              have hb7 : Below w.heap.size w w3 := hb6.out.grown hg4 hb6.out.size (fun g hg => (HO6.out.lt g hg).1)
              clear ho4 hg4 hown hb6 HO6 RI6 RW6 hX4 HT HL hXg hXl b0' b1' BA6 e1 e2
              go_wp2
              go_roundw
              case rel => exact ⟨q + 1, X', by omega, by go_num, by rw [HP4.out], HO7.out, hD4, hE4, hXs7, HX7, hb7⟩
              case measure => simp [intOf]; omega
    · have hqn : q = ops.length := by omega
      subst hqn
      have hz := hb.size
      have H1 := Lib.hid (show RdP wr (Plus Nowhere w.heap.size wr.heap.size) (runR ops).2 u6 by
        have h := HO.out
        rw [List.take_length] at h
        refine h.toRd (bytes := 16) Flat.keeps (by rw [← (run_ok _).ans, (run_ok _).len]; omega) (Sub.nowhere _) (fun b h1 h2 => .inr ⟨h1, h2⟩))
      clear HO HL hI hWt hXs hX
      go_wp2
      go_ret
      exact ⟨_, rfl, H1.out, hb⟩
end Go.Proofs.Ythbbecmffndgdaa
