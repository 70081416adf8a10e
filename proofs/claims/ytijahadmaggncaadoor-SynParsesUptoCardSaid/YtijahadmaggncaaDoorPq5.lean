/- The parser of syn.Parse: row, sum, product. -/
import Derived.Test.YtijahadmaggncaaDoorPq4
namespace Go.Proofs.YtijahadmaggncaaDoor
open Go.RowKit
set_option linter.unusedVariables false
/-- how many tokens are left, by the parser's block -/
def tleft (p : Nat) (w : World) : Nat := match w.cell? ⟨p, 0, none⟩ with
  | some (.slice _ n _) => n
  | _ => 0
theorem PsAt.tleft {p : Nat} {en : En} {w : World} {ts : List LTok} (h : PsAt p en w ts) : tleft p w = ts.length := by
  obtain ⟨A, cap, h0, _⟩ := h.open_
  unfold Go.Proofs.YtijahadmaggncaaDoor.tleft
  rw [h0]
/-- the end: an expression is stored into the result's box and handed back -/
theorem ret_box {fn : Func} {act : Act} {T p d lo : Nat} {en : En} {w w1 : World} {a : Ex} {A : Option Addr} {c : Nat} {r : List LTok} {out : PR Ex} {v0 v1 v2 v3 : Value} (hr : fn.results = #[.cell T 74])
    (hB : Blk 0 w1 d [v0, v1, v2, v3]) (hx : rdE lo p w1 a (exV a.kind a.num a.name (.slice A a.args.length c))) (hp : PsAt p en w1 r) (hb : But (Is p) w w1) (hpw : p < w.heap.size) (hdw : w.heap.size ≤ d) (hdl : d < lo) (ho : out = .ok a r)
    (ht : act.tmps.getD T undef = .pointer (some ⟨d, 0, none⟩)) (hd : act.defers = []) :
    bodyPost Tryd.prog fn (POut p en w (rdE w.heap.size p) out) .ret act (set4 w1 d (.int .i64 a.kind) (.int .i64 a.num) (.string a.name) (.slice A a.args.length c)) := by
  have HF2 := set4_blk hB (.int .i64 a.kind) (.int .i64 a.num) (.string a.name) (.slice A a.args.length c)
  have hbf : But (Is d) w1 (set4 w1 d (.int .i64 a.kind) (.int .i64 a.num) (.string a.name) (.slice A a.args.length c)) := set4_but (But.refl _ _) (.inl (show Is d d from rfl)) _ _ _ _
  have hx3 := (hx.but hbf (.inl hdl)).to (lo' := w.heap.size) (y' := p) (by omega) (.inr (.inr rfl))
  have hp3 := hp.but hbf (by omega)
  have hb3 := set4_but hb (.inr hdw) (.int .i64 a.kind) (.int .i64 a.num) (.string a.name) (.slice A a.args.length c)
  subst ho
  exact ret_pq hr ht hd HF2 ⟨_, rfl, hx3, hp3, hb3⟩
theorem row_le {lvl : Nat} (h : lvl = 1 ∨ lvl = 2) : lvl < 3 ∧ ¬ lvl = 0 := by omega
set_option maxHeartbeats 4000000 in
set_option maxRecDepth 100000 in
theorem prow_any (F : FuncId) (lvl n : Nat) (hlv : lvl = 1 ∨ lvl = 2) (hF : ∀ (args : Array Value) (w : World), (callFunc F args).run Tryd.prog w = .ok (.enter F args) w) (h1 : ∀ m, m < n → PEx F m (lvl + 1))
    (p : Nat) (en : En) (ts : List LTok) (w : World) (out : PR Ex) (ho : exG n (.ex lvl) ts = some out) (h : PsAt p en w ts) (S : Blocks) (v : Value) (hS : ∀ k, S k → k ≠ p ∧ k < w.heap.size) (hv : RdSs w S (lvlS lvl) v) :
    Calls Tryd.prog 114 #[.pointer (some ⟨p, 0, none⟩), .func (.func F) #[.pointer (some ⟨p, 0, none⟩)] #[], v] w (POut p en w (rdE w.heap.size p) out) := by
  obtain ⟨hl3, hl0⟩ := row_le hlv
  cases n with
  | zero => cases ho
  | succ n =>
  rw [exG_ex hl3] at ho
  have hlt := h.lt
  have hbl : Below w.heap.size w (w.alloc (.cells #[.int .i64 0, .int .i64 0, .string ⟨#[]⟩, .slice none 0 0] 74)) := (Below.refl _ _).alloc (Nat.le_refl _) _
  have HF := Lib.hid hF
  clear hF
  rcases PO.bind_some ho with ⟨r, e1, rfl⟩ | ⟨a, r, e1, e2⟩
  · have HC := Lib.hid (h1 n (by omega) p en ts _ _ e1 (h.below hbl))
    have HBL := Lib.hid (But.of_b (T := Is p) hbl)
    clear h hbl ho e1 h1
    have hfc := HF.out
    go_enter Tryd.func114, Tryd.ntmps114
    go_wp2_with (go_at_fn F; refine HC.out.mono ?_; rintro e w1 ⟨rfl, hb1⟩)
    exact ⟨rfl, rfl, HBL.out.trans hb1⟩
  · have HC := Lib.hid (h1 n (by omega) p en ts _ _ e1 (h.below hbl))
    have HBL := Lib.hid (But.of_b (T := Is p) hbl)
    have HBX := Lib.hid (Blk.made w [.int .i64 0, .int .i64 0, .string ⟨#[]⟩, .slice none 0 0] 74 (base := 0) (Nat.zero_le _))
    have H1 := Lib.hid h1
    have HE2 := Lib.hid e2
    have HV0 := Lib.hid (hv.go Flat.keeps hbl (fun k hk => (hS k hk).2) (Sub.refl _))
    have HS := Lib.hid hS
    obtain ⟨d, hd⟩ : ∃ d, d = w.heap.size := ⟨_, rfl⟩
    have hdp : ¬ d = p := by omega
    have hdw : w.heap.size ≤ d := by omega
    have hpd : p < d := by omega
    have hpw : p < w.heap.size := hlt
    have hWd : d < (w.alloc (.cells #[.int .i64 0, .int .i64 0, .string ⟨#[]⟩, .slice none 0 0] 74)).heap.size := by simp [hd]
    have hpW : p < (w.alloc (.cells #[.int .i64 0, .int .i64 0, .string ⟨#[]⟩, .slice none 0 0] 74)).heap.size := by simp; omega
    rw [← hd] at HBX
    clear h hbl ho e1 e2 h1 hv hS
    have hfc := HF.out
    go_enter Tryd.func114, Tryd.ntmps114
    go_upto_region 1 with (fail)
    rw [← hd]
    clear hd
    generalize (w.alloc (.cells #[.int .i64 0, .int .i64 0, .string ⟨#[]⟩, .slice none 0 0] 74)) = W0 at *
    go_upto_region 2 with (go_at_fn F; refine HC.out.mono ?_; rintro e w1 ⟨x, rfl, hx, hp1, hb1⟩; obtain ⟨A, c, rfl⟩ := hx.form)
    have bl1 : Below w1.heap.size w1 (w1.alloc (.cells #[.int .i64 a.kind, .int .i64 a.num, .string a.name, .slice A a.args.length c] 74)) := (Below.refl _ _).alloc (Nat.le_refl _) _
    have hz1 := hb1.size
    obtain ⟨d1, hd1⟩ : ∃ d1, d1 = w1.heap.size := ⟨_, rfl⟩
    have HB1 := Lib.hid (HBL.out.trans (hb1.trans (But.of_b bl1)))
    have HP1 := Lib.hid (hp1.below bl1)
    have HX1 := Lib.hid ((hx.to (lo' := W0.heap.size) (y' := d1) (Nat.le_refl _) (.inr (.inl (by omega)))).below bl1)
    have HR1 := Lib.hid ((HBX.out.but hb1 (fun e => hdp e)).below bl1)
    have HY1 := Lib.hid (Blk.made w1 [.int .i64 a.kind, .int .i64 a.num, .string a.name, .slice A a.args.length c] 74 (base := 0) (Nat.zero_le _))
    have hW0w : w.heap.size ≤ W0.heap.size := by omega
    have HV1 := Lib.hid (HV0.out.keep Flat.keeps (Sub.refl _) ((hb1.trans (But.of_b bl1)).same (fun k hk => by have := (HS.out k hk).2; unfold Upto; omega) (fun k hk e => (HS.out k hk).1 e)))
    have hdd : ¬ d1 = p := by omega
    have hd1d : ¬ d1 = d := by omega
    have hW0d1 : W0.heap.size ≤ d1 := by omega
    have hpd1 : p < d1 := by omega
    have hwd1 : w.heap.size ≤ d1 := by omega
    have hWd1 : d1 < (w1.alloc (.cells #[.int .i64 a.kind, .int .i64 a.num, .string a.name, .slice A a.args.length c] 74)).heap.size := by simp [hd1]
    rw [← hd1] at HY1 ⊢
    clear hx hp1 hb1 bl1 HBX HBL HC hd1 hz1 HV0
    generalize (w1.alloc (.cells #[.int .i64 a.kind, .int .i64 a.num, .string a.name, .slice A a.args.length c] 74)) = W1 at *
    go_upto_region 3 with (go_at_call 43; refine (pany_any HP1.out HV1.out).mono ?_; rintro e wa ⟨rfl, rfl⟩)
    go_loopw [8] (fun s wr => ∃ (a : Ex) (q : List LTok) (m : Nat) (A : Option Addr) (c : Nat), s = .string (anyG (lvlS lvl) q) ∧ m ≤ n ∧ Hid (exG m (.row lvl a) q = some out) ∧ Hid (PsAt p en wr q) ∧ Hid (But (Is p) w wr) ∧ Hid (rdE W0.heap.size d1 wr a (exV a.kind a.num a.name (.slice A a.args.length c))) ∧ Hid (Blk 0 wr d1 [.int .i64 a.kind, .int .i64 a.num, .string a.name, .slice A a.args.length c]) ∧ Hid (Blk 0 wr d [.int .i64 0, .int .i64 0, .string ⟨#[]⟩, .slice none 0 0]) ∧ Hid (RdSs wr S (lvlS lvl) v)) (fun _ wr => tleft p wr)
    case atStart => exact ⟨a, r, n, A, c, rfl, Nat.le_refl _, HE2, HP1, HB1, HX1, HY1, HR1, HV1⟩
    case round =>
      clear HE2 HP1 HB1 HX1 HY1 HR1 HV1
      obtain ⟨a2, q, m, A2, c2, rfl, hmn, HE, HP, HB, HX, HY, HR, HV⟩ := hrel
      obtain ⟨m, rfl⟩ : ∃ k, m = k + 1 := by cases m with
        | zero => cases HE.out
        | succ m => exact ⟨m, rfl⟩
      by_cases hs : anyG (lvlS lvl) q = ⟨#[]⟩
      · have HO := Lib.hid (show out = .ok a2 q by have h := HE.out; rw [exG_stop hs] at h; exact (Option.some.inj h).symm)
        rw [hs]
        have y0 := HY.out.cell 0 _ rfl; have y1 := HY.out.cell 1 _ rfl; have y2 := HY.out.cell 2 _ rfl; have y3 := HY.out.cell 3 _ rfl
        have r0 := HR.out.cell 0 _ rfl; have r1 := HR.out.cell 1 _ rfl; have r2 := HR.out.cell 2 _ rfl; have r3 := HR.out.cell 3 _ rfl
        have f0 := HR.out.fr 0; have f1 := HR.out.fr 1; have f2 := HR.out.fr 2; have f3 := HR.out.fr 3
        clear hs HE H1
        go_wp2
        have HF2 := set4_blk HR.out (.int .i64 a2.kind) (.int .i64 a2.num) (.string a2.name) (.slice A2 a2.args.length c2)
        have hbf : But (Is d) wr (set4 wr d (.int .i64 a2.kind) (.int .i64 a2.num) (.string a2.name) (.slice A2 a2.args.length c2)) := set4_but (But.refl _ _) (.inl (show Is d d from rfl)) _ _ _ _
        have hx3 := (HX.out.but hbf (.inl hWd)).to (lo' := w.heap.size) (y' := p) hW0w (.inl (by omega))
        have hp3 := HP.out.but hbf hpd
        have hb3 := set4_but HB.out (.inr hdw) (.int .i64 a2.kind) (.int .i64 a2.num) (.string a2.name) (.slice A2 a2.args.length c2)
        refine ret_pq Tryd.results114 rfl rfl HF2 ?_
        rw [HO.out]
        exact ⟨_, rfl, hx3, hp3, hb3⟩
      · obtain ⟨t, r2, rfl⟩ := anyG_ne hs
        have he3 := HE.out
        rw [exG_row hs, List.tail_cons] at he3
        have hS1 := H1.out m (by omega)
        have hs0 := ne_nil hs
        generalize anyG (lvlS lvl) (t :: r2) = sg at *
        have HE3 := Lib.hid he3
        have HS1 := Lib.hid hS1
        have hql := HP.out.tleft
        clear he3 hS1 HE hs
        go_upto_region 6 with (go_at_call 78; refine (ptake_any HP.out).mono ?_; rintro e W3 ⟨rfl, hp3, hb3⟩)
        have HB3 := Lib.hid (HB.out.trans hb3)
        have HP3 := Lib.hid hp3
        have HX3 := Lib.hid (HX.out.but hb3 (.inl (by omega)))
        have HR3 := Lib.hid (HR.out.but hb3 (fun e => hdp e))
        have HY3 := Lib.hid (HY.out.but hb3 (fun e => hdd e))
        have hz3 := hb3.size
        have hwr := HB.out.size
        have HV3 := Lib.hid (HV.out.keep Flat.keeps (Sub.refl _) (hb3.same (fun k hk => by have := (HS.out k hk).2; unfold Upto; omega) (fun k hk e => (HS.out k hk).1 e)))
        have HQL := Lib.hid hql
        clear hp3 hb3 HB HP HX HR HY HV hql
        have hd1W : d1 < W3.heap.size := HY3.out.lt
        have hdW : d < W3.heap.size := HR3.out.lt
        have hpW3 : p < W3.heap.size := HP3.out.lt
        have y0 := HY3.out.cell 0 _ rfl; have y1 := HY3.out.cell 1 _ rfl; have y2 := HY3.out.cell 2 _ rfl; have y3 := HY3.out.cell 3 _ rfl
        rcases PO.bind_some HE3.out with ⟨q, e1, e2⟩ | ⟨b, q, e1, e2⟩
        · have HC := Lib.hid (HS1.out p en r2 W3.drew _ e1 (HP3.out.below (Below.refl _ _).drew))
          have HO := Lib.hid e2
          clear e1 e2 HE3 HS1
          refine wp_region_pre 4 (S := (fun w' => StP p W3 w')) (by kernel_rfl) (by kernel_rfl) (StP.of_but ((But.refl _ _).drew)) (fun hHeld => ?_)
          simp only [List.take_succ_cons, List.take_zero]
          refine wpAnyH_take_at (i := 0) (v := ?_) (some 21) rfl rfl (by kernel_rfl) (by kernel_rfl) (by kernel_rfl) (fun _ _ _ h => h) (Or.inl ⟨by rfl, ?_⟩) (by assumption) ?_
          rotate_left
          · (intro w hSw; (try dsimp only at hSw); go_simp; (try with_reducible rfl))
          (try simp only [Act.put, List.setIfInBounds_toArray, List.set_cons_zero, List.set_cons_succ])
          refine wpAnyH_take_at (i := 1) (v := ?_) (some 22) rfl rfl (by kernel_rfl) (by kernel_rfl) (by kernel_rfl) (fun _ _ _ h => h) (Or.inl ⟨by rfl, ?_⟩) (by assumption) ?_
          rotate_left
          · (intro w hSw; (try dsimp only at hSw); go_simp; (try with_reducible rfl))
          (try simp only [Act.put, List.setIfInBounds_toArray, List.set_cons_zero, List.set_cons_succ])
          refine wpAnyH_take_at (i := 2) (v := ?_) (some 23) rfl rfl (by kernel_rfl) (by kernel_rfl) (by kernel_rfl) (fun _ _ _ h => h) (Or.inl ⟨by rfl, ?_⟩) (by assumption) ?_
          rotate_left
          · (intro w hSw; (try dsimp only at hSw); go_simp; (try with_reducible rfl))
          (try simp only [Act.put, List.setIfInBounds_toArray, List.set_cons_zero, List.set_cons_succ])
          refine wpAnyH_ready (rs := [3]) (by kernel_rfl) (by simp) ?_
          refine AllReadyH.cons rfl (fun K hK => ?_) AllReadyH.nil
          go_simp
          refine HC.out.mono ?_
          rintro e w4 ⟨rfl, hb4⟩
          exact ⟨rfl, by rw [HO.out]; exact ⟨rfl, HB3.out.trans ((But.refl _ _).drew.trans hb4)⟩⟩
        · have HC := Lib.hid (HS1.out p en r2 W3.drew _ e1 (HP3.out.below (Below.refl _ _).drew))
          have HE4 := Lib.hid (show exG m (.row lvl (twoX sg a2 b)) q = some out by rw [if_neg hl0] at e2; exact e2)
          have hlen := exG_len _ _ _ _ _ e1
          simp only [moLen] at hlen
          clear e1 e2 HE3 HS1
          refine wp_region_pre 4 (S := (fun w' => StP p W3 w')) (by kernel_rfl) (by kernel_rfl) (StP.of_but ((But.refl _ _).drew)) (fun hHeld => ?_)
          simp only [List.take_succ_cons, List.take_zero]
          refine wpAnyH_take_at (i := 0) (v := ?_) (some 21) rfl rfl (by kernel_rfl) (by kernel_rfl) (by kernel_rfl) (fun _ _ _ h => h) (Or.inl ⟨by rfl, ?_⟩) (by assumption) ?_
          rotate_left
          · (intro w hSw; (try dsimp only at hSw); go_simp; (try with_reducible rfl))
          (try simp only [Act.put, List.setIfInBounds_toArray, List.set_cons_zero, List.set_cons_succ])
          refine wpAnyH_take_at (i := 1) (v := ?_) (some 22) rfl rfl (by kernel_rfl) (by kernel_rfl) (by kernel_rfl) (fun _ _ _ h => h) (Or.inl ⟨by rfl, ?_⟩) (by assumption) ?_
          rotate_left
          · (intro w hSw; (try dsimp only at hSw); go_simp; (try with_reducible rfl))
          (try simp only [Act.put, List.setIfInBounds_toArray, List.set_cons_zero, List.set_cons_succ])
          refine wpAnyH_take_at (i := 2) (v := ?_) (some 23) rfl rfl (by kernel_rfl) (by kernel_rfl) (by kernel_rfl) (fun _ _ _ h => h) (Or.inl ⟨by rfl, ?_⟩) (by assumption) ?_
          rotate_left
          · (intro w hSw; (try dsimp only at hSw); go_simp; (try with_reducible rfl))
          (try simp only [Act.put, List.setIfInBounds_toArray, List.set_cons_zero, List.set_cons_succ])
          refine wpAnyH_ready (rs := [3]) (by kernel_rfl) (by simp) ?_
          refine AllReadyH.cons rfl (fun K hK => ?_) AllReadyH.nil
          go_simp
          refine HC.out.mono ?_
          rintro e w4 ⟨y, rfl, hy, hp4, hb4⟩
          have hst : StP p W3 w4 := StP.step hb4 hHeld
          refine hK.out _ _ ?_ (fun hHeld => ?_)
          · exact hst
          clear hK K
          (try simp only [Act.put, List.setIfInBounds_toArray, List.set_cons_zero, List.set_cons_succ])
          refine wpAnyH_done (by kernel_rfl) ?_ _
          unfold QPre
          simp only [List.drop_succ_cons, List.drop_zero]
          have hdw4 : But (Is p) W3 w4 := (But.refl _ _).drew.trans hb4
          have HB4 := Lib.hid (HB3.out.trans hdw4)
          have HP4 := Lib.hid hp4
          have hz4 := hdw4.size
          have HR4 := Lib.hid (HR3.out.but hdw4 (fun e => hdp e))
          have HY4 := Lib.hid (HY3.out.but hdw4 (fun e => hdd e))
          have HV4 := Lib.hid (HV3.out.keep Flat.keeps (Sub.refl _) (hdw4.same (fun k hk => by have := (HS.out k hk).2; unfold Upto; omega) (fun k hk e => (HS.out k hk).1 e)))
          have hpw4 : p < w4.heap.size := by omega
          have hW3W0 : W0.heap.size ≤ W3.heap.size := by omega
          have HTW := Lib.hid (ptwo_any sg a2 b w4 (Rn W0.heap.size d1 w4) _ _ Rn.upto (HX3.out.but hdw4 (.inl (by omega))) (rdE.to hy (lo' := W0.heap.size) (y' := d1) hW3W0 (.inl hd1W)))
          clear hy hp4 hb4 hdw4 hst hHeld HC HB3 HP3 HX3 HR3 HY3 HV3 y0 y1 y2 y3
          go_upto_region 4 with (go_at_call 81; refine HTW.out.mono ?_; rintro e w5 ⟨U, rfl, hU, hb5⟩; obtain ⟨A9, c9, rfl⟩ := RdE.form hU; have hY5 := HY4.out.below hb5; have r0 := hY5.cell 0 _ rfl; have r1 := hY5.cell 1 _ rfl; have r2 := hY5.cell 2 _ rfl; have r3 := hY5.cell 3 _ rfl; have f0 := hY5.fr 0; have f1 := hY5.fr 1; have f2 := hY5.fr 2; have f3 := hY5.fr 3)
          have HYF := Lib.hid (set4_blk hY5 (.int .i64 (twoX sg a2 b).kind) (.int .i64 (twoX sg a2 b).num) (.string (twoX sg a2 b).name) (.slice A9 (twoX sg a2 b).args.length c9))
          have hbf : But (Is d1) w5 (set4 w5 d1 (.int .i64 (twoX sg a2 b).kind) (.int .i64 (twoX sg a2 b).num) (.string (twoX sg a2 b).name) (.slice A9 (twoX sg a2 b).args.length c9)) := set4_but (But.refl _ _) (.inl (show Is d1 d1 from rfl)) _ _ _ _
          have hx5 : rdE W0.heap.size d1 w5 _ _ := rdE.two (Nat.le_trans hW3W0 hz4) (by omega) hb5.size hU
          have HX6 := Lib.hid (hx5.but hbf (.inr rfl))
          have HP6 := Lib.hid ((HP4.out.below hb5).but hbf hpd1)
          have HB6 := Lib.hid (set4_but (HB4.out.trans (But.of_b hb5)) (.inr hwd1) (.int .i64 (twoX sg a2 b).kind) (.int .i64 (twoX sg a2 b).num) (.string (twoX sg a2 b).name) (.slice A9 (twoX sg a2 b).args.length c9))
          have HR6 := Lib.hid ((HR4.out.below hb5).but hbf (fun e => hd1d e.symm))
          have hb5z := hb5.size
          have HV6 := Lib.hid ((HV4.out.go Flat.keeps hb5 (fun k hk => by have := (HS.out k hk).2; unfold Upto; omega) (Sub.refl _)).keep Flat.keeps (Sub.refl _) (hbf.same (fun k hk => by have := (HS.out k hk).2; unfold Upto; omega) (fun k hk e => by unfold Is at e; have := (HS.out k hk).2; omega)))
          clear hbf hx5 hU hb5 hY5 HTW HR4 HY4 HV4 HP4 HB4 r0 r1 r2 r3 f0 f1 f2 f3
          change Code.wp _ _ _ _ (set4 w5 d1 (.int .i64 (twoX sg a2 b).kind) (.int .i64 (twoX sg a2 b).num) (.string (twoX sg a2 b).name) (.slice A9 (twoX sg a2 b).args.length c9))
          generalize (set4 w5 d1 (.int .i64 (twoX sg a2 b).kind) (.int .i64 (twoX sg a2 b).num) (.string (twoX sg a2 b).name) (.slice A9 (twoX sg a2 b).args.length c9)) = W6 at *
          have HA6 := Lib.hid (pany_any HP6.out HV6.out)
          have HT6 := Lib.hid HP6.out.tleft
          go_wp2_with (go_at_call 43; refine HA6.out.mono ?_; rintro e wa ⟨rfl, rfl⟩)
          go_roundw
          case rel => exact ⟨twoX sg a2 b, q, m, A9, c9, rfl, by omega, HE4, HP6, HB6, HX6, HYF, HR6, HV6⟩
          case measure => rw [HT6.out, HQL.out, List.length_cons]; omega
theorem enters_atom (args : Array Value) (w : World) : (callFunc 143 args).run Tryd.prog w = .ok (.enter 143 args) w := by kernel_rfl
theorem enters_product (args : Array Value) (w : World) : (callFunc 115 args).run Tryd.prog w = .ok (.enter 115 args) w := by kernel_rfl
set_option maxHeartbeats 1000000 in
set_option maxRecDepth 100000 in
theorem psum_step (n : Nat) (h1 : ∀ m, m < n → PEx 115 m 2) : PEx 80 n 1 := by
  intro p en ts w out ho h
  have hlt := h.lt
  have hmf : ∀ (fn : Fn) (first cap : Array Value) (w : World), (Instr.makeFunc fn first cap).run Tryd.prog w = .ok (.func fn first cap) w := fun _ _ _ _ => rfl
  --(.cells #[.int .i64 0, .int .i64 0, .string ⟨#[]⟩, .slice none 0 0] 74) = (.cells #[.int .i64 0, .int .i64 0, .string ⟨#[]⟩, .slice none 0 0] 74)
  have bl0 : Below w.heap.size w (w.alloc (.cells #[.int .i64 0, .int .i64 0, .string ⟨#[]⟩, .slice none 0 0] 74)) := (Below.refl _ _).alloc (Nat.le_refl _) _
  have bl1 : Below w.heap.size w ((w.alloc (.cells #[.int .i64 0, .int .i64 0, .string ⟨#[]⟩, .slice none 0 0] 74)).alloc (.cells #[.string ⟨#[43]⟩, .string ⟨#[45]⟩] 9)) := bl0.alloc (by simp) _
  have HC := Lib.hid (show Calls Tryd.prog 114 #[.pointer (some ⟨p, 0, none⟩), .func (.func 115) #[.pointer (some ⟨p, 0, none⟩)] #[], .slice (some ⟨(w.alloc (.cells #[.int .i64 0, .int .i64 0, .string ⟨#[]⟩, .slice none 0 0] 74)).heap.size, 0, none⟩) 2 2] ((w.alloc (.cells #[.int .i64 0, .int .i64 0, .string ⟨#[]⟩, .slice none 0 0] 74)).alloc (.cells #[.string ⟨#[43]⟩, .string ⟨#[45]⟩] 9)) (POut p en ((w.alloc (.cells #[.int .i64 0, .int .i64 0, .string ⟨#[]⟩, .slice none 0 0] 74)).alloc (.cells #[.string ⟨#[43]⟩, .string ⟨#[45]⟩] 9)) (rdE ((w.alloc (.cells #[.int .i64 0, .int .i64 0, .string ⟨#[]⟩, .slice none 0 0] 74)).alloc (.cells #[.string ⟨#[43]⟩, .string ⟨#[45]⟩] 9)).heap.size p) out) from
    prow_any 115 1 n (.inl rfl) enters_product h1 p en ts _ out ho (h.below bl1) (Is (w.alloc (.cells #[.int .i64 0, .int .i64 0, .string ⟨#[]⟩, .slice none 0 0] 74)).heap.size) _ (fun k hk => by unfold Is at hk; subst hk; exact ⟨by simp; omega, by simp⟩) (rd_words (w.alloc (.cells #[.int .i64 0, .int .i64 0, .string ⟨#[]⟩, .slice none 0 0] 74)) (lvlS 1) (ok_lvl 1).1 (ok_lvl 1).2))
  have HB := Lib.hid (But.of_b (T := Is p) bl1)
  have HBX := Lib.hid ((Blk.made w [.int .i64 0, .int .i64 0, .string ⟨#[]⟩, .slice none 0 0] 74 (base := 0) (Nat.zero_le _)).below ((Below.refl _ _).alloc (Nat.le_refl _) (.cells #[.string ⟨#[43]⟩, .string ⟨#[45]⟩] 9)))
  have hz2 : w.heap.size ≤ ((w.alloc (.cells #[.int .i64 0, .int .i64 0, .string ⟨#[]⟩, .slice none 0 0] 74)).alloc (.cells #[.string ⟨#[43]⟩, .string ⟨#[45]⟩] 9)).heap.size := bl1.size
  have hdz : w.heap.size < ((w.alloc (.cells #[.int .i64 0, .int .i64 0, .string ⟨#[]⟩, .slice none 0 0] 74)).alloc (.cells #[.string ⟨#[43]⟩, .string ⟨#[45]⟩] 9)).heap.size := by simp; omega
  have hdp : ¬ w.heap.size = p := by omega
  simp only [World.size_alloc] at HC
  clear h ho h1 bl0 bl1
  go_enter Tryd.func80, Tryd.ntmps80
  cases out with
  | no r =>
    go_wp2_with (go_at_call 114; refine HC.out.mono ?_; rintro e w1 ⟨rfl, hb1⟩)
    exact ⟨rfl, rfl, HB.out.trans hb1⟩
  | ok a r =>
    go_wp2_with (go_at_call 114; refine HC.out.mono ?_; rintro e w1 ⟨x, rfl, hx, hp1, hb1⟩; obtain ⟨A, c, rfl⟩ := hx.form; have hR1 := HBX.out.but hb1 (fun e => hdp e); have r0 := hR1.cell 0 _ rfl; have r1 := hR1.cell 1 _ rfl; have r2 := hR1.cell 2 _ rfl; have r3 := hR1.cell 3 _ rfl; have f0 := hR1.fr 0; have f1 := hR1.fr 1; have f2 := hR1.fr 2; have f3 := hR1.fr 3)
    exact ret_box Tryd.results80 hR1 hx hp1 (HB.out.trans hb1) hlt (Nat.le_refl _) (by omega) rfl rfl rfl
set_option maxHeartbeats 1000000 in
set_option maxRecDepth 100000 in
theorem pproduct_step (n : Nat) (h1 : ∀ m, m < n → PEx 143 m 3) : PEx 115 n 2 := by
  intro p en ts w out ho h
  have hlt := h.lt
  have hmf : ∀ (fn : Fn) (first cap : Array Value) (w : World), (Instr.makeFunc fn first cap).run Tryd.prog w = .ok (.func fn first cap) w := fun _ _ _ _ => rfl
  --(.cells #[.int .i64 0, .int .i64 0, .string ⟨#[]⟩, .slice none 0 0] 74) = (.cells #[.int .i64 0, .int .i64 0, .string ⟨#[]⟩, .slice none 0 0] 74)
  have bl0 : Below w.heap.size w (w.alloc (.cells #[.int .i64 0, .int .i64 0, .string ⟨#[]⟩, .slice none 0 0] 74)) := (Below.refl _ _).alloc (Nat.le_refl _) _
  have bl1 : Below w.heap.size w ((w.alloc (.cells #[.int .i64 0, .int .i64 0, .string ⟨#[]⟩, .slice none 0 0] 74)).alloc (.cells #[.string ⟨#[42]⟩, .string ⟨#[47]⟩, .string ⟨#[37]⟩] 9)) := bl0.alloc (by simp) _
  have HC := Lib.hid (show Calls Tryd.prog 114 #[.pointer (some ⟨p, 0, none⟩), .func (.func 143) #[.pointer (some ⟨p, 0, none⟩)] #[], .slice (some ⟨(w.alloc (.cells #[.int .i64 0, .int .i64 0, .string ⟨#[]⟩, .slice none 0 0] 74)).heap.size, 0, none⟩) 3 3] ((w.alloc (.cells #[.int .i64 0, .int .i64 0, .string ⟨#[]⟩, .slice none 0 0] 74)).alloc (.cells #[.string ⟨#[42]⟩, .string ⟨#[47]⟩, .string ⟨#[37]⟩] 9)) (POut p en ((w.alloc (.cells #[.int .i64 0, .int .i64 0, .string ⟨#[]⟩, .slice none 0 0] 74)).alloc (.cells #[.string ⟨#[42]⟩, .string ⟨#[47]⟩, .string ⟨#[37]⟩] 9)) (rdE ((w.alloc (.cells #[.int .i64 0, .int .i64 0, .string ⟨#[]⟩, .slice none 0 0] 74)).alloc (.cells #[.string ⟨#[42]⟩, .string ⟨#[47]⟩, .string ⟨#[37]⟩] 9)).heap.size p) out) from
    prow_any 143 2 n (.inr rfl) enters_atom h1 p en ts _ out ho (h.below bl1) (Is (w.alloc (.cells #[.int .i64 0, .int .i64 0, .string ⟨#[]⟩, .slice none 0 0] 74)).heap.size) _ (fun k hk => by unfold Is at hk; subst hk; exact ⟨by simp; omega, by simp⟩) (rd_words (w.alloc (.cells #[.int .i64 0, .int .i64 0, .string ⟨#[]⟩, .slice none 0 0] 74)) (lvlS 2) (ok_lvl 2).1 (ok_lvl 2).2))
  have HB := Lib.hid (But.of_b (T := Is p) bl1)
  have HBX := Lib.hid ((Blk.made w [.int .i64 0, .int .i64 0, .string ⟨#[]⟩, .slice none 0 0] 74 (base := 0) (Nat.zero_le _)).below ((Below.refl _ _).alloc (Nat.le_refl _) (.cells #[.string ⟨#[42]⟩, .string ⟨#[47]⟩, .string ⟨#[37]⟩] 9)))
  have hz2 : w.heap.size ≤ ((w.alloc (.cells #[.int .i64 0, .int .i64 0, .string ⟨#[]⟩, .slice none 0 0] 74)).alloc (.cells #[.string ⟨#[42]⟩, .string ⟨#[47]⟩, .string ⟨#[37]⟩] 9)).heap.size := bl1.size
  have hdz : w.heap.size < ((w.alloc (.cells #[.int .i64 0, .int .i64 0, .string ⟨#[]⟩, .slice none 0 0] 74)).alloc (.cells #[.string ⟨#[42]⟩, .string ⟨#[47]⟩, .string ⟨#[37]⟩] 9)).heap.size := by simp; omega
  have hdp : ¬ w.heap.size = p := by omega
  simp only [World.size_alloc] at HC
  clear h ho h1 bl0 bl1
  go_enter Tryd.func115, Tryd.ntmps115
  cases out with
  | no r =>
    go_wp2_with (go_at_call 114; refine HC.out.mono ?_; rintro e w1 ⟨rfl, hb1⟩)
    exact ⟨rfl, rfl, HB.out.trans hb1⟩
  | ok a r =>
    go_wp2_with (go_at_call 114; refine HC.out.mono ?_; rintro e w1 ⟨x, rfl, hx, hp1, hb1⟩; obtain ⟨A, c, rfl⟩ := hx.form; have hR1 := HBX.out.but hb1 (fun e => hdp e); have r0 := hR1.cell 0 _ rfl; have r1 := hR1.cell 1 _ rfl; have r2 := hR1.cell 2 _ rfl; have r3 := hR1.cell 3 _ rfl; have f0 := hR1.fr 0; have f1 := hR1.fr 1; have f2 := hR1.fr 2; have f3 := hR1.fr 3)
    exact ret_box Tryd.results115 hR1 hx hp1 (HB.out.trans hb1) hlt (Nat.le_refl _) (by omega) rfl rfl rfl
end Go.Proofs.YtijahadmaggncaaDoor
