/- forkwrightref.MPlain gives the list plainL, too. -/
import Derived.Test.YtmpononkbdfkmaaSerial1
namespace Go.Proofs.Ytmpononkbdfkmaa
open Go.RowKit
set_option linter.unusedVariables false
attribute [local go_sem] frozen_drew

set_option maxHeartbeats 1000000 in
set_option maxRecDepth 100000 in
theorem mplain_one (l : List St) (h : ∀ k s a b body els, St.mk k s a b body els ∈ l → PlainOk 19 body ∧ PlainOk 19 els) : PlainOk 19 l := by
  intro w S v hS r
  obtain ⟨A, cap, rfl, hl, hcm, hby⟩ := r.form
  unfold maxLen at hcm
  have H := Lib.hid h
  clear h
  obtain ⟨i0, hi, hz0, hz1, hz2⟩ := info_parts infoSt
  go_enter Try.func19, Try.ntmps19
  go_wp2
  go_loopw [3, 9] (fun o i wr => ∃ q : Nat, q ≤ l.length ∧ i = .int .i64 q ∧ OwnL RdSt 12 85 wr w.heap.size (Plus S w.heap.size wr.heap.size) (plainL (l.take q)) o ∧ Below w.heap.size w wr) (fun _ i _ => l.length - (intOf i).toNat)
  case atStart => exact ⟨0, by omega, rfl, by simp [plainL]; exact OwnL.nil _ _ _, Below.refl _ _⟩
  case round =>
    obtain ⟨q, hq, rfl, hown, hbel⟩ := hrel
    by_cases hlt : q < l.length
    · obtain ⟨b, off, cs, rfl, hb, hcl, hcell, hrd⟩ := r.at_ hlt
      have hb : b < w.heap.size := hS _ hb
      have hmem := List.getElem_mem hlt
      have htk : l.take (q + 1) = l.take q ++ [l[q]] := by rw [List.take_succ_eq_append_getElem hlt]
      obtain ⟨st, hst⟩ : ∃ st, l[q] = st := ⟨_, rfl⟩
      rw [hst] at hrd hmem htk
      obtain ⟨k, s, a, b', body, els⟩ := st
      obtain ⟨k1, n1, s1, A1, m1, p1, k2, n2, s2, A2, m2, p2, A3, p3, A4, p4, rfl, hk, hs, ra, rb, rv, rv'⟩ := hrd.cells
      have e0 := (hbel.cell (p := ⟨b, off + q * 12, none⟩) hb).trans (hcell 0 _ rfl)
      have e1 := (hbel.cell (p := ⟨b, off + q * 12 + 1, none⟩) hb).trans (hcell 1 _ rfl); have e2 := (hbel.cell (p := ⟨b, off + q * 12 + 2, none⟩) hb).trans (hcell 2 _ rfl); have e3 := (hbel.cell (p := ⟨b, off + q * 12 + 3, none⟩) hb).trans (hcell 3 _ rfl); have e4 := (hbel.cell (p := ⟨b, off + q * 12 + 4, none⟩) hb).trans (hcell 4 _ rfl); have e5 := (hbel.cell (p := ⟨b, off + q * 12 + 5, none⟩) hb).trans (hcell 5 _ rfl); have e6 := (hbel.cell (p := ⟨b, off + q * 12 + 6, none⟩) hb).trans (hcell 6 _ rfl); have e7 := (hbel.cell (p := ⟨b, off + q * 12 + 7, none⟩) hb).trans (hcell 7 _ rfl); have e8 := (hbel.cell (p := ⟨b, off + q * 12 + 8, none⟩) hb).trans (hcell 8 _ rfl); have e9 := (hbel.cell (p := ⟨b, off + q * 12 + 9, none⟩) hb).trans (hcell 9 _ rfl); have e10 := (hbel.cell (p := ⟨b, off + q * 12 + 10, none⟩) hb).trans (hcell 10 _ rfl); have e11 := (hbel.cell (p := ⟨b, off + q * 12 + 11, none⟩) hb).trans (hcell 11 _ rfl)
      have HT := Lib.hid htk
      have HO := Lib.hid hown
      have rbo := rv.go RdSt.keeps hbel hS (Sub.refl _)
      have rel := rv'.go RdSt.keeps hbel hS (Sub.refl _)
      have hSr := hS.lift hbel.size
      have kB : ∀ w', Below wr.heap.size wr w' → RdSts w' S body (.slice A3 body.length p3) ∧ RdSts w' S els (.slice A4 els.length p4) ∧ Sub S (Upto w'.heap.size) := fun w' h =>
        ⟨rbo.go RdSt.keeps h hSr (Sub.refl _), rel.go RdSt.keeps h hSr (Sub.refl _), hSr.lift h.size⟩
      have KB := Lib.hid kB
      have HIB := Lib.hid (H.out _ _ _ _ _ _ hmem)
      have raa : RdEx wr S a _ := RdEx.keeps _ _ _ _ _ _ (Sub.refl _) (same_of_below hbel hS) ra
      have rbb : RdEx wr S b' _ := RdEx.keeps _ _ _ _ _ _ (Sub.refl _) (same_of_below hbel hS) rb
      have RAA := Lib.hid raa
      have RBB := Lib.hid rbb
      clear hst htk hrd hcell hown kB raa rbb ra rb rv rv' rbo rel hcl
      go_upto_region 5 with (fail)
      go_cut [6] (fun x6 wx => ∃ A5 p5 A6 p6 g T1 T2, x6 = .pointer (some ⟨g, 0, none⟩) ∧ RdSts wx T1 (plainL body) (.slice A5 (plainL body).length p5) ∧ RdSts wx T2 (plainL els) (.slice A6 (plainL els).length p6) ∧
          ¬ T1 g ∧ ¬ T2 g ∧ Sub T1 (Plus S wr.heap.size wx.heap.size) ∧ Sub T2 (Plus S wr.heap.size wx.heap.size) ∧ Below wr.heap.size wr wx ∧ wr.heap.size < g ∧ g < wx.heap.size ∧ wx.cell? ⟨wr.heap.size, 0, none⟩ = some (.int .i64 k) ∧ 
          wx.cell? ⟨g, 0, none⟩ = some (.int .i64 k) ∧ wx.cell? ⟨g, 1, none⟩ = some (.string s) ∧ wx.cell? ⟨g, 2, none⟩ = some (.int .i64 k1) ∧ wx.cell? ⟨g, 3, none⟩ = some (.int .i64 n1) ∧ wx.cell? ⟨g, 4, none⟩ = some (.string s1) ∧ wx.cell? ⟨g, 5, none⟩ = some (.slice A1 m1 p1) ∧ wx.cell? ⟨g, 6, none⟩ = some (.int .i64 k2) ∧ wx.cell? ⟨g, 7, none⟩ = some (.int .i64 n2) ∧ wx.cell? ⟨g, 8, none⟩ = some (.string s2) ∧ wx.cell? ⟨g, 9, none⟩ = some (.slice A2 m2 p2) ∧ wx.cell? ⟨g, 10, none⟩ = some (.slice A5 (plainL body).length p5) ∧ wx.cell? ⟨g, 11, none⟩ = some (.slice A6 (plainL els).length p6) ∧ wx.frozen? ⟨g, 0, none⟩ = false ∧ wx.frozen? ⟨g, 1, none⟩ = false ∧ wx.frozen? ⟨g, 2, none⟩ = false ∧ wx.frozen? ⟨g, 3, none⟩ = false ∧ wx.frozen? ⟨g, 4, none⟩ = false ∧ wx.frozen? ⟨g, 5, none⟩ = false ∧ wx.frozen? ⟨g, 6, none⟩ = false ∧ wx.frozen? ⟨g, 7, none⟩ = false ∧ wx.frozen? ⟨g, 8, none⟩ = false ∧ wx.frozen? ⟨g, 9, none⟩ = false ∧ wx.frozen? ⟨g, 10, none⟩ = false ∧ wx.frozen? ⟨g, 11, none⟩ = false)
      case first =>
        refine forget (fun W1 => Below wr.heap.size wr W1 ∧ wr.heap.size < W1.heap.size ∧ W1.cell? ⟨wr.heap.size, 0, none⟩ = some (.int .i64 k) ∧ W1.cell? ⟨wr.heap.size, 1, none⟩ = some (.string s) ∧ W1.cell? ⟨wr.heap.size, 2, none⟩ = some (.int .i64 k1) ∧ W1.cell? ⟨wr.heap.size, 3, none⟩ = some (.int .i64 n1) ∧ W1.cell? ⟨wr.heap.size, 4, none⟩ = some (.string s1) ∧ W1.cell? ⟨wr.heap.size, 5, none⟩ = some (.slice A1 m1 p1) ∧ W1.cell? ⟨wr.heap.size, 6, none⟩ = some (.int .i64 k2) ∧ W1.cell? ⟨wr.heap.size, 7, none⟩ = some (.int .i64 n2) ∧ W1.cell? ⟨wr.heap.size, 8, none⟩ = some (.string s2) ∧ W1.cell? ⟨wr.heap.size, 9, none⟩ = some (.slice A2 m2 p2) ∧ W1.cell? ⟨wr.heap.size, 10, none⟩ = some (.slice A3 body.length p3) ∧ W1.cell? ⟨wr.heap.size, 11, none⟩ = some (.slice A4 els.length p4)) ?_ ?_
        · simp
          exact (Below.refl wr.heap.size wr).alloc (Nat.le_refl _) _
        rintro W1 ⟨hW, hWs, g0, g1, g2, g3, g4, g5, g6, g7, g8, g9, g10, g11⟩
        clear e0 e1 e2 e3 e4 e5 e6 e7 e8 e9 e10 e11
        have kW : ∀ w', Stay W1 w' → Below wr.heap.size wr w' := fun w' h => hW.trans (h.below.mono (by omega))
        go_region_held3 (fun w' => Stay W1 w') (((refine Stay.mk ?_; (repeat (with_reducible first | refine Kept.set ?_ (by omega) _ | refine Kept.drew ?_ | refine Kept.alloc ?_ _)); first | exact Kept.refl _ | assumption)))
          (first
            | (go_at_call_of 19 (Value.slice A3 body.length p3); refine (HIB.out.1 _ S _ ?_ ?_).mono ?_; exact (KB.out _ (kW _ (by assumption))).2.2; exact (KB.out _ (kW _ (by assumption))).1; rintro e w' ⟨u1, rfl, hu1, hx1⟩; obtain ⟨A5, p5, rfl, -, -, -⟩ := hu1.form; have hst1 := Stay.of hx1; have hk1 : Kept W1 w' := Kept.next hx1 (by assumption); have hz1 := hk1.below.size; have hy1 := hx1.size; try (simp at hy1; try rw [Nat.add_one_le_iff] at hy1))
            | (go_at_call_of 19 (Value.slice A4 els.length p4); refine (HIB.out.2 _ S _ ?_ ?_).mono ?_; exact (KB.out _ (kW _ (by assumption))).2.2; exact (KB.out _ (kW _ (by assumption))).2.1; rintro e w'' ⟨u2, rfl, hu2, hx2⟩; obtain ⟨A6, p6, rfl, -, -, -⟩ := hu2.form; have hst2 := Stay.of hx2; have hk2 : Kept W1 w'' := Kept.next hx2 (by assumption); have hz2 := hk2.below.size))
        all_goals (try go_wp2_with fail)
        all_goals go_meet
        all_goals go_light
        all_goals have hc1 := hx1.size
        all_goals have hc2 := hx2.size
        all_goals simp at hc1 hc2
        all_goals refine ⟨A5, p5, A6, p6, _, _, _, rfl, hu1.keep RdSt.keeps (Sub.refl _) ?_, hu2.keep RdSt.keeps (Sub.refl _) ?_, ?_, ?_, ?_, ?_, kW _ (by assumption), ?_, ?_, ?_, ?_, ?_, ?_, ?_, ?_, ?_, ?_, ?_, ?_, ?_, ?_, ?_, ?_, ?_, ?_, ?_, ?_, ?_, ?_, ?_, ?_, ?_, ?_, ?_⟩
        all_goals first
          | (go_simp; done)
          | omega
          | (with_reducible refine Sub.plus_mono ?_ ?_ <;> first | omega | (simp; done) | (simp; omega))
          | exact not_plus hSr (by first | omega | (simp; done) | (simp; omega)) (by first | omega | (simp; done) | (simp; omega))
          | (simp; omega)
          | ((repeat (with_reducible first | exact Same.refl _ _ | refine Same.setCell ?_ ?_ _ | refine Same.alloc ?_ ?_ _ | refine Same.drew ?_ | refine Same.via hx2 ?_ ?_ | refine Same.via hx3 ?_ ?_)) <;> first | exact Same.refl _ _ | assumption | exact not_plus hSr (by first | omega | (simp; done) | (simp; omega)) (by first | omega | (simp; done) | (simp; omega)) | exact Sub.plus_to hSr (by first | omega | (simp; done) | (simp; omega)) (by first | omega | (simp; done) | (simp; omega)))
      case rest =>
        obtain ⟨A5, p5, A6, p6, g, T1, T2, rfl, ru1, ru2, ng1, ng2, hT1, hT2, hbx, hg1, hg2, hk0, c0, c1, c2, c3, c4, c5, c6, c7, c8, c9, c10, c11, f0, f1, f2, f3, f4, f5, f6, f7, f8, f9, f10, f11⟩ := hcut
        have hszx := hbx.size
        have hszr := hbel.size
        have hbw := hbel.trans (hbx.mono hszr)
        have ngS : ¬ S g := not_sub hSr (Nat.le_of_lt hg1)
        have raa : RdEx wc S a _ := RdEx.keeps _ _ _ _ _ _ (Sub.refl _) (same_of_below hbx hSr) RAA.out
        have rbb : RdEx wc S b' _ := RdEx.keeps _ _ _ _ _ _ (Sub.refl _) (same_of_below hbx hSr) RBB.out
        have RA := Lib.hid raa
        have RB := Lib.hid rbb
        have R1 := Lib.hid ru1
        have R2 := Lib.hid ru2
        clear raa rbb ru1 ru2 RAA RBB KB HIB e0 e1 e2 e3 e4 e5 e6 e7 e8 e9 e10 e11
        go_upto_region 6 with (fail)
        go_cut [35] (fun x wx => x = .bool (isPar k) ∧ wx = wc)
        case first =>
          go_wp2
          all_goals go_meet
          all_goals exact ⟨by simp [isPar, *], rfl⟩
        case rest =>
        obtain ⟨rfl, hwc⟩ := hcut
        subst hwc
        go_upto_if 35 with (fail)
        go_cut [] (fun wx => ∃ T kk ss k1 n1 s1 A1 m1 p1 k2 n2 s2 A2 m2 p2 A5 n5 p5 A6 n6 p6, RdSt wx T (plainSt (.mk k s a b' body els)) [.int .i64 kk, .string ss, .int .i64 k1, .int .i64 n1, .string s1, .slice A1 m1 p1, .int .i64 k2, .int .i64 n2, .string s2, .slice A2 m2 p2, .slice A5 n5 p5, .slice A6 n6 p6] ∧
          Sub T (Plus S wr.heap.size wx.heap.size) ∧ Below wr.heap.size wr wx ∧ wx.heap.size = wc.heap.size ∧
          wx.cell? ⟨g, 0, none⟩ = some (.int .i64 kk) ∧ wx.cell? ⟨g, 1, none⟩ = some (.string ss) ∧ wx.cell? ⟨g, 2, none⟩ = some (.int .i64 k1) ∧ wx.cell? ⟨g, 3, none⟩ = some (.int .i64 n1) ∧ wx.cell? ⟨g, 4, none⟩ = some (.string s1) ∧ wx.cell? ⟨g, 5, none⟩ = some (.slice A1 m1 p1) ∧ wx.cell? ⟨g, 6, none⟩ = some (.int .i64 k2) ∧ wx.cell? ⟨g, 7, none⟩ = some (.int .i64 n2) ∧ wx.cell? ⟨g, 8, none⟩ = some (.string s2) ∧ wx.cell? ⟨g, 9, none⟩ = some (.slice A2 m2 p2) ∧ wx.cell? ⟨g, 10, none⟩ = some (.slice A5 n5 p5) ∧ wx.cell? ⟨g, 11, none⟩ = some (.slice A6 n6 p6))
        case first =>
          by_cases h45 : (isPar k) = true
          · rw [h45]
            go_wp2
            go_meet
            go_light
            refine ⟨Both S T1, 6, ⟨#[]⟩, 1, 1, ⟨#[]⟩, none, 0, 0, 0, 0, ⟨#[]⟩, none, 0, 0, A5, (plainL body).length, p5, none, 0, 0, ?_, ?_, ?_, ?_, ?_, ?_, ?_, ?_, ?_, ?_, ?_, ?_, ?_, ?_, ?_, ?_⟩
            · simp only [plainSt, h45, if_true]
              refine RdSt.shut (by decide) (by decide) (RdEx.shut (by decide) (by decide) (by decide) (RdL.nil (by simp [maxLen]))) (RdEx.shut (by decide) (by decide) (by decide) (RdL.nil (by simp [maxLen]))) (R1.out.keep RdSt.keeps (Sub.right _ _) ?_) (RdL.nil (by simp [maxLen]))
              ((repeat (with_reducible first | exact Same.refl _ _ | refine Same.setCell ?_ ?_ _ | refine Same.alloc ?_ ?_ _ | refine Same.drew ?_ | refine Same.via hx2 ?_ ?_ | refine Same.via hx3 ?_ ?_)) <;> first | exact Same.refl _ _ | assumption | exact not_plus hSr (by first | omega | (simp; done) | (simp; omega)) (by first | omega | (simp; done) | (simp; omega)) | exact Sub.plus_to hSr (by first | omega | (simp; done) | (simp; omega)) (by first | omega | (simp; done) | (simp; omega)))
            · simp only [size_setCell]; exact Sub.both (Sub.plus _ _ _) hT1
            · (repeat refine Below.setCell ?_ (by simp; omega) _); exact hbx
            · simp only [size_setCell]
            all_goals (go_simp; done)
          · have h45' : isPar k = false := by simpa using h45
            rw [h45']
            go_wp2
            go_meet
            go_light
            refine ⟨Both S (Both T1 T2), k, s, k1, n1, s1, A1, m1, p1, k2, n2, s2, A2, m2, p2, A5, (plainL body).length, p5, A6, (plainL els).length, p6, ?_, Sub.both (Sub.plus _ _ _) (Sub.both hT1 hT2), hbx, rfl, c0, c1, c2, c3, c4, c5, c6, c7, c8, c9, c10, c11⟩
            simp only [plainSt, h45', Bool.false_eq_true, if_false]
            exact RdSt.shut hk hs (RdEx.keeps _ _ _ _ _ _ (Sub.left _ _) (Same.refl _ _) RA.out) (RdEx.keeps _ _ _ _ _ _ (Sub.left _ _) (Same.refl _ _) RB.out) (R1.out.sub RdSt.keeps ((Sub.left _ _).trans (Sub.right _ _))) (R2.out.sub RdSt.keeps ((Sub.right _ _).trans (Sub.right _ _)))
        case rest =>
          clear c0 c1 c2 c3 c4 c5 c6 c7 c8 c9 c10 c11 f0 f1 f2 f3 f4 f5 f6 f7 f8 f9 f10 f11 RA RB R1 R2 hbw hszx hT1 hT2 hbx ng1 ng2 hk0
          obtain ⟨T, kk, ss, k1, n1, s1, A1, m1, p1, k2, n2, s2, A2, m2, p2, A5, n5, p5, A6, n6, p6, hel, hTs, hbx, hwz, g0, g1, g2, g3, g4, g5, g6, g7, g8, g9, g10, g11⟩ := hcut
          have hszx := hbx.size
          have hbw := hbel.trans (hbx.mono hszr)
          have hown := (HO.out.keep RdSt.keeps hbx).sub (Sub.plus_mono (S := S) (Nat.le_refl w.heap.size) hszx)
          have hlen : (plainL (l.take q)).length = q := by rw [plainL_eq]; simp; omega
          have ho3 : ∀ g, u3.ownBlock = some g → ¬ T g := fun g hg h => by
            have := HO.out.lt g hg
            exact (hTs _ h).elim (fun h => by have := hS _ h; unfold Upto at this; omega) (fun h => by omega)
          have HEL := Lib.hid hel
          have HOW := Lib.hid hown
          have HO3 := Lib.hid ho3
          have HTS := Lib.hid hTs
          clear hel hown ho3 hwz hTs
          go_wp2_with (at_builtin; refine wpList_append_one rfl _ _ 22 rfl i0 _ Try.underlying22 hi hz0 hz1 hz2 rfl (by decide) RdSt.keeps HOW.out HEL.out rfl rfl rfl ?c0 ?c1 ?c2 ?c3 ?c4 ?c5 ?c6 ?_)
          case c0 => exact HTS.out.trans (Sub.plus_mono hszr (Nat.le_refl _))
          case c1 => exact HTS.out.trans (Sub.plus_to hSr hszx (Nat.le_refl _))
          case c2 => exact HO3.out
          case c3 => simp [Value.oneCell']
          case c4 => rw [hlen]; unfold maxLen; omega
          case c5 => rw [hlen]; omega
          case c6 => omega
          intro v2 w2 hown2 hg2 _
          have hown3 : OwnL RdSt 12 85 w2 w.heap.size (Plus S w.heap.size w2.heap.size) (plainL (l.take (q + 1))) v2 := by
            rw [HT.out, plainL_eq, List.map_append, ← plainL_eq]
            exact hown2.sub (Sub.plus_mono (Nat.le_refl _) hg2.size)
          have hb2 : Below w.heap.size w w2 := hbw.grown hg2 hbw.size (fun k hk => (HO.out.lt k hk).1)
          clear hown2 hg2 HOW HEL HO3
          go_wp2
          go_roundw
          case rel => exact ⟨q + 1, by omega, by go_num, hown3, hb2⟩
          case measure => simp [intOf]; omega
    · have hql : q = l.length := by omega
      have hown' : RdSts wr (Plus S w.heap.size wr.heap.size) (plainL l) u3 := by
        have h := hown.toRd (bytes := 184) RdSt.keeps (by rw [plainL_eq]; simp; omega) (Sub.refl _) (fun b h1 h2 => .inr ⟨h1, h2⟩)
        rwa [hql, List.take_length] at h
      clear hown
      go_wp2
      go_ret
      exact ⟨_, rfl, hown', hbel⟩

theorem plain_all (m : Nat) : ∀ l : List St, SizeOf.sizeOf l ≤ m → PlainOk 18 l ∧ PlainOk 19 l := by
  induction m with
  | zero => intro l h; cases l <;> simp at h
  | succ m ih =>
    intro l h
    have hsz : ∀ k s a b body els, St.mk k s a b body els ∈ l → SizeOf.sizeOf body ≤ m ∧ SizeOf.sizeOf els ≤ m := fun k s a b body els hm => by
      have := List.sizeOf_lt_of_mem hm
      simp only [St.mk.sizeOf_spec] at this
      omega
    have h0 : PlainOk 18 [] := plain_nil
    exact ⟨plain_one l (fun k s a b body els hm => ⟨(ih _ (hsz _ _ _ _ _ _ hm).1).1, (ih _ (hsz _ _ _ _ _ _ hm).2).1⟩) (fun _ => h0), mplain_one l (fun k s a b body els hm => ⟨(ih _ (hsz _ _ _ _ _ _ hm).1).2, (ih _ (hsz _ _ _ _ _ _ hm).2).2⟩)⟩
end Go.Proofs.Ytmpononkbdfkmaa
