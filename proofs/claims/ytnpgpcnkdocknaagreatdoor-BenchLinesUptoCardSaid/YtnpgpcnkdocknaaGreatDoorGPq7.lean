/- Texts merged: Pq5, AtoiLib, Pq6, Pq7. -/
import Derived.Test.YtnpgpcnkdocknaaGreatDoorGPq4
import Derived.Shelf.Strconv.AtoiAll
import Derived.Lib.ParseIntBTie
import Derived.WalkSmall
import Derived.Test.YtnpgpcnkdocknaaGreatDoorBase
namespace Go.Proofs.YtnpgpcnkdocknaaGreatDoor
open Go.RowKit
set_option linter.unusedVariables false
def tleft (p : Nat) (w : World) : Nat := match w.cell? ⟨p, 0, none⟩ with
 | some (.slice _ n _) => n
 | _ => 0
theorem PsAt.tleft {p : Nat} {en : En} {w : World} {ts : List LTok} (h : PsAt p en w ts) : tleft p w = ts.length := by
 obtain ⟨A, cap, h0, _⟩ := h.open_
 unfold Go.Proofs.YtnpgpcnkdocknaaGreatDoor.tleft
 rw [h0]
theorem ret_box {fn : Func} {act : Act} {T p d lo : Nat} {en : En} {w w1 : World} {a : Ex} {A : Option Addr} {c : Nat} {r : List LTok} {out : PR Ex} {v0 v1 v2 v3 : Value} (hr : fn.results = #[.cell T 80])
    (hB : Blk 0 w1 d [v0, v1, v2, v3]) (hx : rdE lo p w1 a (exV a.kind a.num a.name (.slice A a.args.length c))) (hp : PsAt p en w1 r) (hb : But (Is p) w w1) (hpw : p < w.heap.size) (hdw : w.heap.size ≤ d) (hdl : d < lo) (ho : out = .ok a r)
    (ht : act.tmps.getD T undef = .pointer (some ⟨d, 0, none⟩)) (hd : act.defers = []) :
    bodyPost Tryz.prog fn (POut p en w (rdE w.heap.size p) out) .ret act (set4 w1 d (.int .i64 a.kind) (.int .i64 a.num) (.string a.name) (.slice A a.args.length c)) := by
 have HF2 := set4_blk hB (.int .i64 a.kind) (.int .i64 a.num) (.string a.name) (.slice A a.args.length c)
 have hbf : But (Is d) w1 (set4 w1 d (.int .i64 a.kind) (.int .i64 a.num) (.string a.name) (.slice A a.args.length c)) := set4_but (But.refl _ _) (.inl (show Is d d from rfl)) _ _ _ _
 have hx3 := (hx.but hbf (.inl hdl)).to (lo' := w.heap.size) (y' := p) (by omega) (.inr (.inr rfl))
 have hp3 := hp.but hbf (by omega)
 have hb3 := set4_but hb (.inr hdw) (.int .i64 a.kind) (.int .i64 a.num) (.string a.name) (.slice A a.args.length c)
 subst ho
 exact ret_pq hr ht hd HF2 ⟨_, rfl, hx3, hp3, hb3⟩
theorem row_le {lvl : Nat} (h : lvl = 1 ∨ lvl = 2) : lvl < 3 ∧ ¬ lvl = 0 := by omega
set_option maxHeartbeats 4000000 in
set_option maxRecDepth 100000 in
theorem prow_any (F : FuncId) (lvl n : Nat) (hlv : lvl = 1 ∨ lvl = 2) (hF : ∀ (args : Array Value) (w : World), (callFunc F args).run Tryz.prog w = .ok (.enter F args) w) (h1 : ∀ m, m < n → PEx F m (lvl + 1))
    (p : Nat) (en : En) (ts : List LTok) (w : World) (out : PR Ex) (ho : exG n (.ex lvl) ts = some out) (h : PsAt p en w ts) (S : Blocks) (v : Value) (hS : ∀ k, S k → k ≠ p ∧ k < w.heap.size) (hv : RdSs w S (lvlS lvl) v) :
    Calls Tryz.prog 93 #[.pointer (some ⟨p, 0, none⟩), .func (.func F) #[.pointer (some ⟨p, 0, none⟩)] #[], v] w (POut p en w (rdE w.heap.size p) out) := by
 obtain ⟨hl3, hl0⟩ := row_le hlv
 cases n with
 | zero => cases ho
 | succ n =>
 rw [exG_ex hl3] at ho
 have hlt := h.lt
 have hbl : Below w.heap.size w (w.alloc (.cells #[.int .i64 0, .int .i64 0, .string ⟨#[]⟩, .slice none 0 0] 80)) := (Below.refl _ _).alloc (Nat.le_refl _) _
 have HF := hid hF
 clear hF
 rcases PO.bind_some ho with ⟨r, e1, rfl⟩ | ⟨a, r, e1, e2⟩
 ·have HC := hid (h1 n (by omega) p en ts _ _ e1 (h.below hbl))
  have HBL := hid (But.of_b (T := Is p) hbl)
  clear h hbl ho e1 h1
  have hfc := HF.out
  go_enter Tryz.func93, Tryz.ntmps93
  go_wp2_with (go_at_fn F; refine HC.out.mono ?_; rintro e w1 ⟨rfl, hb1⟩)
  exact ⟨rfl, rfl, HBL.out.trans hb1⟩
 ·have HC := hid (h1 n (by omega) p en ts _ _ e1 (h.below hbl))
  have HBL := hid (But.of_b (T := Is p) hbl)
  have HBX := hid (Blk.made w [.int .i64 0, .int .i64 0, .string ⟨#[]⟩, .slice none 0 0] 80 (base := 0) (Nat.zero_le _))
  have H1 := hid h1
  have HE2 := hid e2
  have HV0 := hid (hv.go Flat.keeps hbl (fun k hk => (hS k hk).2) (Sub.refl _))
  have HS := hid hS
  obtain ⟨d, hd⟩ : ∃ d, d = w.heap.size := ⟨_, rfl⟩
  have hdp : ¬ d = p := by omega
  have hdw : w.heap.size ≤ d := by omega
  have hpd : p < d := by omega
  have hpw : p < w.heap.size := hlt
  have hWd : d < (w.alloc (.cells #[.int .i64 0, .int .i64 0, .string ⟨#[]⟩, .slice none 0 0] 80)).heap.size := by simp [hd]
  have hpW : p < (w.alloc (.cells #[.int .i64 0, .int .i64 0, .string ⟨#[]⟩, .slice none 0 0] 80)).heap.size := by simp; omega
  rw [← hd] at HBX
  clear h hbl ho e1 e2 h1 hv hS
  have hfc := HF.out
  go_enter Tryz.func93, Tryz.ntmps93
  go_upto_region 1 with (fail)
  rw [← hd]
  clear hd
  generalize (w.alloc (.cells #[.int .i64 0, .int .i64 0, .string ⟨#[]⟩, .slice none 0 0] 80)) = W0 at *
  go_upto_region 2 with (go_at_fn F; refine HC.out.mono ?_; rintro e w1 ⟨x, rfl, hx, hp1, hb1⟩; obtain ⟨A, c, rfl⟩ := hx.form)
  have bl1 : Below w1.heap.size w1 (w1.alloc (.cells #[.int .i64 a.kind, .int .i64 a.num, .string a.name, .slice A a.args.length c] 80)) := (Below.refl _ _).alloc (Nat.le_refl _) _
  have hz1 := hb1.size
  obtain ⟨d1, hd1⟩ : ∃ d1, d1 = w1.heap.size := ⟨_, rfl⟩
  have HB1 := hid (HBL.out.trans (hb1.trans (But.of_b bl1)))
  have HP1 := hid (hp1.below bl1)
  have HX1 := hid ((hx.to (lo' := W0.heap.size) (y' := d1) (Nat.le_refl _) (.inr (.inl (by omega)))).below bl1)
  have HR1 := hid ((HBX.out.but hb1 (fun e => hdp e)).below bl1)
  have HY1 := hid (Blk.made w1 [.int .i64 a.kind, .int .i64 a.num, .string a.name, .slice A a.args.length c] 80 (base := 0) (Nat.zero_le _))
  have hW0w : w.heap.size ≤ W0.heap.size := by omega
  have HV1 := hid (HV0.out.keep Flat.keeps (Sub.refl _) ((hb1.trans (But.of_b bl1)).same (fun k hk => by have := (HS.out k hk).2; unfold Upto; omega) (fun k hk e => (HS.out k hk).1 e)))
  have hdd : ¬ d1 = p := by omega
  have hd1d : ¬ d1 = d := by omega
  have hW0d1 : W0.heap.size ≤ d1 := by omega
  have hpd1 : p < d1 := by omega
  have hwd1 : w.heap.size ≤ d1 := by omega
  have hWd1 : d1 < (w1.alloc (.cells #[.int .i64 a.kind, .int .i64 a.num, .string a.name, .slice A a.args.length c] 80)).heap.size := by simp [hd1]
  rw [← hd1] at HY1 ⊢
  clear hx hp1 hb1 bl1 HBX HBL HC hd1 hz1 HV0
  generalize (w1.alloc (.cells #[.int .i64 a.kind, .int .i64 a.num, .string a.name, .slice A a.args.length c] 80)) = W1 at *
  go_upto_region 3 with (go_at_call 41; refine (pany_any HP1.out HV1.out).mono ?_; rintro e wa ⟨rfl, rfl⟩)
  go_loopw [8] (fun s wr => ∃ (a : Ex) (q : List LTok) (m : Nat) (A : Option Addr) (c : Nat), s = .string (anyG (lvlS lvl) q) ∧ m ≤ n ∧ Hid (exG m (.row lvl a) q = some out) ∧ Hid (PsAt p en wr q) ∧ Hid (But (Is p) w wr) ∧ Hid (rdE W0.heap.size d1 wr a (exV a.kind a.num a.name (.slice A a.args.length c))) ∧ Hid (Blk 0 wr d1 [.int .i64 a.kind, .int .i64 a.num, .string a.name, .slice A a.args.length c]) ∧ Hid (Blk 0 wr d [.int .i64 0, .int .i64 0, .string ⟨#[]⟩, .slice none 0 0]) ∧ Hid (RdSs wr S (lvlS lvl) v)) (fun _ wr => tleft p wr)
  case atStart => exact ⟨a, r, n, A, c, rfl, Nat.le_refl _, HE2, HP1, HB1, HX1, HY1, HR1, HV1⟩
  case round =>
   clear HE2 HP1 HB1 HX1 HY1 HR1 HV1
   obtain ⟨a2, q, m, A2, c2, rfl, hmn, HE, HP, HB, HX, HY, HR, HV⟩ := hrel
   obtain ⟨m, rfl⟩ : ∃ k, m = k + 1 := by cases m with
    | zero => cases HE.out
    | succ m => exact ⟨m, rfl⟩
   by_cases hs : anyG (lvlS lvl) q = ⟨#[]⟩
   ·have HO := hid (show out = .ok a2 q by have h := HE.out; rw [exG_stop hs] at h; exact (Option.some.inj h).symm)
    rw [hs]
    have y0 := HY.out.cell 0 _ rfl; have y1 := HY.out.cell 1 _ rfl; have y2 := HY.out.cell 2 _ rfl; have y3 := HY.out.cell 3 _ rfl
    have r0 := HR.out.cell 0 _ rfl; have r1 := HR.out.cell 1 _ rfl; have r2 := HR.out.cell 2 _ rfl; have r3 := HR.out.cell 3 _ rfl
    have f0 := HR.out.fr 0; have f1 := HR.out.fr 1; have f2 := HR.out.fr 2; have f3 := HR.out.fr 3
    clear hs HE H1
    go_wp2
    have HF2 := set4_blk HR.out (.int .i64 a2.kind) (.int .i64 a2.num) (.string a2.name) (.slice A2 a2.args.length c2)
    have hbf : But (Is d) wr (set4 wr d (.int .i64 a2.kind) (.int .i64 a2.num) (.string a2.name) (.slice A2 a2.args.length c2)) := set4_but (But.refl _ _) (.inl (show Is d d from rfl)) _ _ _ _
    have hx3 := (HX.out.but hbf (.inl hWd)).to (lo' := w.heap.size) (y' := p) hW0w (.inl (by omega))
    have hp3 := HP.out.but hbf hpd
    have hb3 := set4_but HB.out (.inr hdw) (.int .i64 a2.kind) (.int .i64 a2.num) (.string a2.name) (.slice A2 a2.args.length c2)
    refine ret_pq Tryz.results93 rfl rfl HF2 ?_
    rw [HO.out]
    exact ⟨_, rfl, hx3, hp3, hb3⟩
   ·obtain ⟨t, r2, rfl⟩ := anyG_ne hs
    have he3 := HE.out
    rw [exG_row hs, List.tail_cons] at he3
    have hS1 := H1.out m (by omega)
    have hs0 := ne_nil hs
    generalize anyG (lvlS lvl) (t :: r2) = sg at *
    have HE3 := hid he3
    have HS1 := hid hS1
    have hql := HP.out.tleft
    clear he3 hS1 HE hs
    go_upto_region 6 with (go_at_call 70; refine (ptake_any HP.out).mono ?_; rintro e W3 ⟨rfl, hp3, hb3⟩)
    have HB3 := hid (HB.out.trans hb3)
    have HP3 := hid hp3
    have HX3 := hid (HX.out.but hb3 (.inl (by omega)))
    have HR3 := hid (HR.out.but hb3 (fun e => hdp e))
    have HY3 := hid (HY.out.but hb3 (fun e => hdd e))
    have hz3 := hb3.size
    have hwr := HB.out.size
    have HV3 := hid (HV.out.keep Flat.keeps (Sub.refl _) (hb3.same (fun k hk => by have := (HS.out k hk).2; unfold Upto; omega) (fun k hk e => (HS.out k hk).1 e)))
    have HQL := hid hql
    clear hp3 hb3 HB HP HX HR HY HV hql
    have hd1W : d1 < W3.heap.size := HY3.out.lt
    have hdW : d < W3.heap.size := HR3.out.lt
    have hpW3 : p < W3.heap.size := HP3.out.lt
    have y0 := HY3.out.cell 0 _ rfl; have y1 := HY3.out.cell 1 _ rfl; have y2 := HY3.out.cell 2 _ rfl; have y3 := HY3.out.cell 3 _ rfl
    rcases PO.bind_some HE3.out with ⟨q, e1, e2⟩ | ⟨b, q, e1, e2⟩
    ·have HC := hid (HS1.out p en r2 W3.drew _ e1 (HP3.out.below (Below.refl _ _).drew))
     have HO := hid e2
     clear e1 e2 HE3 HS1
     refine wp_region_pre 4 (S := (fun w' => StP p W3 w')) (by kernel_rfl) (by kernel_rfl) (StP.of_but ((But.refl _ _).drew)) (fun hHeld => ?_)
     simp only [List.take_succ_cons, List.take_zero]
     refine tkA 0 21 ?_
     refine tkA 1 22 ?_
     refine tkA 2 23 ?_
     (try simp only [Act.put, List.setIfInBounds_toArray, List.set_cons_zero, List.set_cons_succ])
     refine wpAnyH_ready (rs := [3]) (by kernel_rfl) (by simp) ?_
     refine AllReadyH.cons rfl (fun K hK => ?_) AllReadyH.nil
     go_simp
     refine HC.out.mono ?_
     rintro e w4 ⟨rfl, hb4⟩
     exact ⟨rfl, by rw [HO.out]; exact ⟨rfl, HB3.out.trans ((But.refl _ _).drew.trans hb4)⟩⟩
    ·have HC := hid (HS1.out p en r2 W3.drew _ e1 (HP3.out.below (Below.refl _ _).drew))
     have HE4 := hid (show exG m (.row lvl (twoX sg a2 b)) q = some out by rw [if_neg hl0] at e2; exact e2)
     have hlen := exG_len _ _ _ _ _ e1
     simp only [moLen] at hlen
     clear e1 e2 HE3 HS1
     refine wp_region_pre 4 (S := (fun w' => StP p W3 w')) (by kernel_rfl) (by kernel_rfl) (StP.of_but ((But.refl _ _).drew)) (fun hHeld => ?_)
     simp only [List.take_succ_cons, List.take_zero]
     refine tkA 0 21 ?_
     refine tkA 1 22 ?_
     refine tkA 2 23 ?_
     (try simp only [Act.put, List.setIfInBounds_toArray, List.set_cons_zero, List.set_cons_succ])
     refine wpAnyH_ready (rs := [3]) (by kernel_rfl) (by simp) ?_
     refine AllReadyH.cons rfl (fun K hK => ?_) AllReadyH.nil
     go_simp
     refine HC.out.mono ?_
     rintro e w4 ⟨y, rfl, hy, hp4, hb4⟩
     have hst : StP p W3 w4 := StP.step hb4 hHeld
     refine hK.out _ _ ?_ (fun hHeld => ?_)
     ·exact hst
     clear hK K
     (try simp only [Act.put, List.setIfInBounds_toArray, List.set_cons_zero, List.set_cons_succ])
     refine wpAnyH_done (by kernel_rfl) ?_ _
     unfold QPre
     simp only [List.drop_succ_cons, List.drop_zero]
     have hdw4 : But (Is p) W3 w4 := (But.refl _ _).drew.trans hb4
     have HB4 := hid (HB3.out.trans hdw4)
     have HP4 := hid hp4
     have hz4 := hdw4.size
     have HR4 := hid (HR3.out.but hdw4 (fun e => hdp e))
     have HY4 := hid (HY3.out.but hdw4 (fun e => hdd e))
     have HV4 := hid (HV3.out.keep Flat.keeps (Sub.refl _) (hdw4.same (fun k hk => by have := (HS.out k hk).2; unfold Upto; omega) (fun k hk e => (HS.out k hk).1 e)))
     have hpw4 : p < w4.heap.size := by omega
     have hW3W0 : W0.heap.size ≤ W3.heap.size := by omega
     have HTW := hid (ptwo_any sg a2 b w4 (Rn W0.heap.size d1 w4) _ _ Rn.upto (HX3.out.but hdw4 (.inl (by omega))) (rdE.to hy (lo' := W0.heap.size) (y' := d1) hW3W0 (.inl hd1W)))
     clear hy hp4 hb4 hdw4 hst hHeld HC HB3 HP3 HX3 HR3 HY3 HV3 y0 y1 y2 y3
     go_upto_region 4 with (go_at_call 73; refine HTW.out.mono ?_; rintro e w5 ⟨U, rfl, hU, hb5⟩; obtain ⟨A9, c9, rfl⟩ := RdE.form hU; have hY5 := HY4.out.below hb5; have r0 := hY5.cell 0 _ rfl; have r1 := hY5.cell 1 _ rfl; have r2 := hY5.cell 2 _ rfl; have r3 := hY5.cell 3 _ rfl; have f0 := hY5.fr 0; have f1 := hY5.fr 1; have f2 := hY5.fr 2; have f3 := hY5.fr 3)
     have HYF := hid (set4_blk hY5 (.int .i64 (twoX sg a2 b).kind) (.int .i64 (twoX sg a2 b).num) (.string (twoX sg a2 b).name) (.slice A9 (twoX sg a2 b).args.length c9))
     have hbf : But (Is d1) w5 (set4 w5 d1 (.int .i64 (twoX sg a2 b).kind) (.int .i64 (twoX sg a2 b).num) (.string (twoX sg a2 b).name) (.slice A9 (twoX sg a2 b).args.length c9)) := set4_but (But.refl _ _) (.inl (show Is d1 d1 from rfl)) _ _ _ _
     have hx5 : rdE W0.heap.size d1 w5 _ _ := rdE.two (Nat.le_trans hW3W0 hz4) (by omega) hb5.size hU
     have HX6 := hid (hx5.but hbf (.inr rfl))
     have HP6 := hid ((HP4.out.below hb5).but hbf hpd1)
     have HB6 := hid (set4_but (HB4.out.trans (But.of_b hb5)) (.inr hwd1) (.int .i64 (twoX sg a2 b).kind) (.int .i64 (twoX sg a2 b).num) (.string (twoX sg a2 b).name) (.slice A9 (twoX sg a2 b).args.length c9))
     have HR6 := hid ((HR4.out.below hb5).but hbf (fun e => hd1d e.symm))
     have hb5z := hb5.size
     have HV6 := hid ((HV4.out.go Flat.keeps hb5 (fun k hk => by have := (HS.out k hk).2; unfold Upto; omega) (Sub.refl _)).keep Flat.keeps (Sub.refl _) (hbf.same (fun k hk => by have := (HS.out k hk).2; unfold Upto; omega) (fun k hk e => by unfold Is at e; have := (HS.out k hk).2; omega)))
     clear hbf hx5 hU hb5 hY5 HTW HR4 HY4 HV4 HP4 HB4 r0 r1 r2 r3 f0 f1 f2 f3
     change Code.wp _ _ _ _ (set4 w5 d1 (.int .i64 (twoX sg a2 b).kind) (.int .i64 (twoX sg a2 b).num) (.string (twoX sg a2 b).name) (.slice A9 (twoX sg a2 b).args.length c9))
     generalize (set4 w5 d1 (.int .i64 (twoX sg a2 b).kind) (.int .i64 (twoX sg a2 b).num) (.string (twoX sg a2 b).name) (.slice A9 (twoX sg a2 b).args.length c9)) = W6 at *
     have HA6 := hid (pany_any HP6.out HV6.out)
     have HT6 := hid HP6.out.tleft
     go_wp2_with (go_at_call 41; refine HA6.out.mono ?_; rintro e wa ⟨rfl, rfl⟩)
     go_roundw
     case rel => exact ⟨twoX sg a2 b, q, m, A9, c9, rfl, by omega, HE4, HP6, HB6, HX6, HYF, HR6, HV6⟩
     case measure => rw [HT6.out, HQL.out, List.length_cons]; omega
theorem enters_atom (args : Array Value) (w : World) : (callFunc 115 args).run Tryz.prog w = .ok (.enter 115 args) w := by kernel_rfl
theorem enters_product (args : Array Value) (w : World) : (callFunc 94 args).run Tryz.prog w = .ok (.enter 94 args) w := by kernel_rfl
set_option maxHeartbeats 1000000 in
set_option maxRecDepth 100000 in
theorem psum_step (n : Nat) (h1 : ∀ m, m < n → PEx 94 m 2) : PEx 72 n 1 := by
 intro p en ts w out ho h
 have hlt := h.lt
 have hmf : ∀ (fn : Fn) (first cap : Array Value) (w : World), (Instr.makeFunc fn first cap).run Tryz.prog w = .ok (.func fn first cap) w := fun _ _ _ _ => rfl
 --(.cells #[.int .i64 0, .int .i64 0, .string ⟨#[]⟩, .slice none 0 0] 80) = (.cells #[.int .i64 0, .int .i64 0, .string ⟨#[]⟩, .slice none 0 0] 80)
 have bl0 : Below w.heap.size w (w.alloc (.cells #[.int .i64 0, .int .i64 0, .string ⟨#[]⟩, .slice none 0 0] 80)) := (Below.refl _ _).alloc (Nat.le_refl _) _
 have bl1 : Below w.heap.size w ((w.alloc (.cells #[.int .i64 0, .int .i64 0, .string ⟨#[]⟩, .slice none 0 0] 80)).alloc (.cells #[.string ⟨#[43]⟩, .string ⟨#[45]⟩] 9)) := bl0.alloc (by simp) _
 have HC := hid (show Calls Tryz.prog 93 #[.pointer (some ⟨p, 0, none⟩), .func (.func 94) #[.pointer (some ⟨p, 0, none⟩)] #[], .slice (some ⟨(w.alloc (.cells #[.int .i64 0, .int .i64 0, .string ⟨#[]⟩, .slice none 0 0] 80)).heap.size, 0, none⟩) 2 2] ((w.alloc (.cells #[.int .i64 0, .int .i64 0, .string ⟨#[]⟩, .slice none 0 0] 80)).alloc (.cells #[.string ⟨#[43]⟩, .string ⟨#[45]⟩] 9)) (POut p en ((w.alloc (.cells #[.int .i64 0, .int .i64 0, .string ⟨#[]⟩, .slice none 0 0] 80)).alloc (.cells #[.string ⟨#[43]⟩, .string ⟨#[45]⟩] 9)) (rdE ((w.alloc (.cells #[.int .i64 0, .int .i64 0, .string ⟨#[]⟩, .slice none 0 0] 80)).alloc (.cells #[.string ⟨#[43]⟩, .string ⟨#[45]⟩] 9)).heap.size p) out) from
  prow_any 94 1 n (.inl rfl) enters_product h1 p en ts _ out ho (h.below bl1) (Is (w.alloc (.cells #[.int .i64 0, .int .i64 0, .string ⟨#[]⟩, .slice none 0 0] 80)).heap.size) _ (fun k hk => by unfold Is at hk; subst hk; exact ⟨by simp; omega, by simp⟩) (rd_words (w.alloc (.cells #[.int .i64 0, .int .i64 0, .string ⟨#[]⟩, .slice none 0 0] 80)) (lvlS 1) (ok_lvl 1).1 (ok_lvl 1).2))
 have HB := hid (But.of_b (T := Is p) bl1)
 have HBX := hid ((Blk.made w [.int .i64 0, .int .i64 0, .string ⟨#[]⟩, .slice none 0 0] 80 (base := 0) (Nat.zero_le _)).below ((Below.refl _ _).alloc (Nat.le_refl _) (.cells #[.string ⟨#[43]⟩, .string ⟨#[45]⟩] 9)))
 have hz2 : w.heap.size ≤ ((w.alloc (.cells #[.int .i64 0, .int .i64 0, .string ⟨#[]⟩, .slice none 0 0] 80)).alloc (.cells #[.string ⟨#[43]⟩, .string ⟨#[45]⟩] 9)).heap.size := bl1.size
 have hdz : w.heap.size < ((w.alloc (.cells #[.int .i64 0, .int .i64 0, .string ⟨#[]⟩, .slice none 0 0] 80)).alloc (.cells #[.string ⟨#[43]⟩, .string ⟨#[45]⟩] 9)).heap.size := by simp; omega
 have hdp : ¬ w.heap.size = p := by omega
 simp only [World.size_alloc] at HC
 clear h ho h1 bl0 bl1
 go_enter Tryz.func72, Tryz.ntmps72
 cases out with
 | no r =>
  go_wp2_with (go_at_call 93; refine HC.out.mono ?_; rintro e w1 ⟨rfl, hb1⟩)
  exact ⟨rfl, rfl, HB.out.trans hb1⟩
 | ok a r =>
  go_wp2_with (go_at_call 93; refine HC.out.mono ?_; rintro e w1 ⟨x, rfl, hx, hp1, hb1⟩; obtain ⟨A, c, rfl⟩ := hx.form; have hR1 := HBX.out.but hb1 (fun e => hdp e); have r0 := hR1.cell 0 _ rfl; have r1 := hR1.cell 1 _ rfl; have r2 := hR1.cell 2 _ rfl; have r3 := hR1.cell 3 _ rfl; have f0 := hR1.fr 0; have f1 := hR1.fr 1; have f2 := hR1.fr 2; have f3 := hR1.fr 3)
  exact ret_box Tryz.results72 hR1 hx hp1 (HB.out.trans hb1) hlt (Nat.le_refl _) (by omega) rfl rfl rfl
set_option maxHeartbeats 1000000 in
set_option maxRecDepth 100000 in
theorem pproduct_step (n : Nat) (h1 : ∀ m, m < n → PEx 115 m 3) : PEx 94 n 2 := by
 intro p en ts w out ho h
 have hlt := h.lt
 have hmf : ∀ (fn : Fn) (first cap : Array Value) (w : World), (Instr.makeFunc fn first cap).run Tryz.prog w = .ok (.func fn first cap) w := fun _ _ _ _ => rfl
 --(.cells #[.int .i64 0, .int .i64 0, .string ⟨#[]⟩, .slice none 0 0] 80) = (.cells #[.int .i64 0, .int .i64 0, .string ⟨#[]⟩, .slice none 0 0] 80)
 have bl0 : Below w.heap.size w (w.alloc (.cells #[.int .i64 0, .int .i64 0, .string ⟨#[]⟩, .slice none 0 0] 80)) := (Below.refl _ _).alloc (Nat.le_refl _) _
 have bl1 : Below w.heap.size w ((w.alloc (.cells #[.int .i64 0, .int .i64 0, .string ⟨#[]⟩, .slice none 0 0] 80)).alloc (.cells #[.string ⟨#[42]⟩, .string ⟨#[47]⟩, .string ⟨#[37]⟩] 9)) := bl0.alloc (by simp) _
 have HC := hid (show Calls Tryz.prog 93 #[.pointer (some ⟨p, 0, none⟩), .func (.func 115) #[.pointer (some ⟨p, 0, none⟩)] #[], .slice (some ⟨(w.alloc (.cells #[.int .i64 0, .int .i64 0, .string ⟨#[]⟩, .slice none 0 0] 80)).heap.size, 0, none⟩) 3 3] ((w.alloc (.cells #[.int .i64 0, .int .i64 0, .string ⟨#[]⟩, .slice none 0 0] 80)).alloc (.cells #[.string ⟨#[42]⟩, .string ⟨#[47]⟩, .string ⟨#[37]⟩] 9)) (POut p en ((w.alloc (.cells #[.int .i64 0, .int .i64 0, .string ⟨#[]⟩, .slice none 0 0] 80)).alloc (.cells #[.string ⟨#[42]⟩, .string ⟨#[47]⟩, .string ⟨#[37]⟩] 9)) (rdE ((w.alloc (.cells #[.int .i64 0, .int .i64 0, .string ⟨#[]⟩, .slice none 0 0] 80)).alloc (.cells #[.string ⟨#[42]⟩, .string ⟨#[47]⟩, .string ⟨#[37]⟩] 9)).heap.size p) out) from
  prow_any 115 2 n (.inr rfl) enters_atom h1 p en ts _ out ho (h.below bl1) (Is (w.alloc (.cells #[.int .i64 0, .int .i64 0, .string ⟨#[]⟩, .slice none 0 0] 80)).heap.size) _ (fun k hk => by unfold Is at hk; subst hk; exact ⟨by simp; omega, by simp⟩) (rd_words (w.alloc (.cells #[.int .i64 0, .int .i64 0, .string ⟨#[]⟩, .slice none 0 0] 80)) (lvlS 2) (ok_lvl 2).1 (ok_lvl 2).2))
 have HB := hid (But.of_b (T := Is p) bl1)
 have HBX := hid ((Blk.made w [.int .i64 0, .int .i64 0, .string ⟨#[]⟩, .slice none 0 0] 80 (base := 0) (Nat.zero_le _)).below ((Below.refl _ _).alloc (Nat.le_refl _) (.cells #[.string ⟨#[42]⟩, .string ⟨#[47]⟩, .string ⟨#[37]⟩] 9)))
 have hz2 : w.heap.size ≤ ((w.alloc (.cells #[.int .i64 0, .int .i64 0, .string ⟨#[]⟩, .slice none 0 0] 80)).alloc (.cells #[.string ⟨#[42]⟩, .string ⟨#[47]⟩, .string ⟨#[37]⟩] 9)).heap.size := bl1.size
 have hdz : w.heap.size < ((w.alloc (.cells #[.int .i64 0, .int .i64 0, .string ⟨#[]⟩, .slice none 0 0] 80)).alloc (.cells #[.string ⟨#[42]⟩, .string ⟨#[47]⟩, .string ⟨#[37]⟩] 9)).heap.size := by simp; omega
 have hdp : ¬ w.heap.size = p := by omega
 simp only [World.size_alloc] at HC
 clear h ho h1 bl0 bl1
 go_enter Tryz.func94, Tryz.ntmps94
 cases out with
 | no r =>
  go_wp2_with (go_at_call 93; refine HC.out.mono ?_; rintro e w1 ⟨rfl, hb1⟩)
  exact ⟨rfl, rfl, HB.out.trans hb1⟩
 | ok a r =>
  go_wp2_with (go_at_call 93; refine HC.out.mono ?_; rintro e w1 ⟨x, rfl, hx, hp1, hb1⟩; obtain ⟨A, c, rfl⟩ := hx.form; have hR1 := HBX.out.but hb1 (fun e => hdp e); have r0 := hR1.cell 0 _ rfl; have r1 := hR1.cell 1 _ rfl; have r2 := hR1.cell 2 _ rfl; have r3 := hR1.cell 3 _ rfl; have f0 := hR1.fr 0; have f1 := hR1.fr 1; have f2 := hR1.fr 2; have f3 := hR1.fr 3)
  exact ret_box Tryz.results94 hR1 hx hp1 (HB.out.trans hb1) hlt (Nat.le_refl _) (by omega) rfl rfl rfl
end Go.Proofs.YtnpgpcnkdocknaaGreatDoor
namespace Go.Proofs.YtnpgpcnkdocknaaGreatDoor
open Go.Shelf Go.RowKit
set_option linter.unusedVariables false
def laysAt_ren : Go.Shelf.Ren := ⟨fun | 172 => 125 | 244 => 128 | 245 => 81 | 247 => 80 | 279 => 102 | 280 => 103 | 281 => 104 | 282 => 105 | 287 => 101 | 316 => 119 | 171 => 33 | 205 => 120 | 321 => 117 | 322 => 118 | 243 => 58 | 246 => 62 | 283 => 86 | 284 => 87 | 285 => 88 | 286 => 89 | 129 => 110 | 317 => 109 | 318 => 111 | 319 => 112 | 320 => 113 | 337 => 123 | 338 => 124 | n => n, fun | 9 => 9 | 3 => 3 | 75 => 92 | 76 => 93 | 4 => 4 | 5 => 5 | 167 => 146 | 37 => 66 | 0 => 0 | 85 => 111 | 2 => 2 | 168 => 150 | 53 => 138 | 175 => 147 | 46 => 149 | 210 => 165 | 127 => 107 | 145 => 173 | 143 => 171 | 21 => 21 | 171 => 137 | 173 => 141 | 212 => 158 | 51 => 159 | 20 => 20 | 213 => 160 | 232 => 174 | 233 => 175 | 80 => 72 | n => n, fun | 15 => 1 | 16 => 2 | 17 => 0 | 18 => 5 | 19 => 6 | n => n⟩
theorem laysAt : Go.Proofs.LaysC.n172 Tryz.prog laysAt_ren where
 mixed := by kernel_rfl
 f129 := Tryz.func110.trans (congrArg some (by kernel_rfl))
 f171 := Tryz.func33.trans (congrArg some (by kernel_rfl))
 f172 := Tryz.func125.trans (congrArg some (by kernel_rfl))
 f205 := Tryz.func120.trans (congrArg some (by kernel_rfl))
 f243 := Tryz.func58.trans (congrArg some (by kernel_rfl))
 f244 := Tryz.func128.trans (congrArg some (by kernel_rfl))
 f245 := Tryz.func81.trans (congrArg some (by kernel_rfl))
 f246 := Tryz.func62.trans (congrArg some (by kernel_rfl))
 f247 := Tryz.func80.trans (congrArg some (by kernel_rfl))
 f279 := Tryz.func102.trans (congrArg some (by kernel_rfl))
 f280 := Tryz.func103.trans (congrArg some (by kernel_rfl))
 f281 := Tryz.func104.trans (congrArg some (by kernel_rfl))
 f282 := Tryz.func105.trans (congrArg some (by kernel_rfl))
 f283 := Tryz.func86.trans (congrArg some (by kernel_rfl))
 f284 := Tryz.func87.trans (congrArg some (by kernel_rfl))
 f285 := Tryz.func88.trans (congrArg some (by kernel_rfl))
 f286 := Tryz.func89.trans (congrArg some (by kernel_rfl))
 f287 := Tryz.func101.trans (congrArg some (by kernel_rfl))
 f316 := Tryz.func119.trans (congrArg some (by kernel_rfl))
 f317 := Tryz.func109.trans (congrArg some (by kernel_rfl))
 f318 := Tryz.func111.trans (congrArg some (by kernel_rfl))
 f319 := Tryz.func112.trans (congrArg some (by kernel_rfl))
 f320 := Tryz.func113.trans (congrArg some (by kernel_rfl))
 f321 := Tryz.func117.trans (congrArg some (by kernel_rfl))
 f322 := Tryz.func118.trans (congrArg some (by kernel_rfl))
 f337 := Tryz.func123.trans (congrArg some (by kernel_rfl))
 f338 := Tryz.func124.trans (congrArg some (by kernel_rfl))
 t0 := Tryz.underlying0
 a0 := Tryz.isAgg0
 z0 := Tryz.sizeOf0
 v0 := Tryz.zeroValue0
 t2 := Tryz.underlying2
 a2 := Tryz.isAgg2
 z2 := Tryz.sizeOf2
 v2 := Tryz.zeroValue2
 t3 := Tryz.underlying3
 a3 := Tryz.isAgg3
 z3 := Tryz.sizeOf3
 v3 := Tryz.zeroValue3
 t4 := Tryz.underlying4
 a4 := Tryz.isAgg4
 z4 := Tryz.sizeOf4
 v4 := Tryz.zeroValue4
 t5 := Tryz.underlying5
 a5 := Tryz.isAgg5
 z5 := Tryz.sizeOf5
 v5 := Tryz.zeroValue5
 t9 := Tryz.underlying9
 a9 := Tryz.isAgg9
 z9 := Tryz.sizeOf9
 v9 := Tryz.zeroValue9
 t20 := Tryz.underlying20
 a20 := Tryz.isAgg20
 z20 := Tryz.sizeOf20
 v20 := Tryz.zeroValue20
 t21 := Tryz.underlying21
 a21 := Tryz.isAgg21
 z21 := Tryz.sizeOf21
 v21 := Tryz.zeroValue21
 t37 := Tryz.underlying66
 a37 := Tryz.isAgg66
 z37 := Tryz.sizeOf66
 v37 := Tryz.zeroValue66
 t46 := Tryz.underlying149
 a46 := Tryz.isAgg149
 z46 := Tryz.sizeOf149
 v46 := Tryz.zeroValue149
 t51 := Tryz.underlying159
 a51 := Tryz.isAgg159
 z51 := Tryz.sizeOf159
 v51 := Tryz.zeroValue159
 t53 := Tryz.underlying138
 a53 := Tryz.isAgg138
 z53 := Tryz.sizeOf138
 v53 := Tryz.zeroValue138
 t75 := Tryz.underlying92
 a75 := Tryz.isAgg92
 z75 := Tryz.sizeOf92
 v75 := Tryz.zeroValue92
 t76 := Tryz.underlying93
 a76 := Tryz.isAgg93
 z76 := Tryz.sizeOf93
 v76 := Tryz.zeroValue93
 t85 := Tryz.underlying111
 a85 := Tryz.isAgg111
 z85 := Tryz.sizeOf111
 v85 := Tryz.zeroValue111
 t127 := Tryz.underlying107
 a127 := Tryz.isAgg107
 z127 := Tryz.sizeOf107
 v127 := Tryz.zeroValue107
 t143 := Tryz.underlying171
 a143 := Tryz.isAgg171
 z143 := Tryz.sizeOf171
 v143 := Tryz.zeroValue171
 t145 := Tryz.underlying173
 a145 := Tryz.isAgg173
 z145 := Tryz.sizeOf173
 v145 := Tryz.zeroValue173
 t167 := Tryz.underlying146
 a167 := Tryz.isAgg146
 z167 := Tryz.sizeOf146
 v167 := Tryz.zeroValue146
 t168 := Tryz.underlying150
 a168 := Tryz.isAgg150
 z168 := Tryz.sizeOf150
 v168 := Tryz.zeroValue150
 t171 := Tryz.underlying137
 a171 := Tryz.isAgg137
 z171 := Tryz.sizeOf137
 v171 := Tryz.zeroValue137
 t173 := Tryz.underlying141
 a173 := Tryz.isAgg141
 z173 := Tryz.sizeOf141
 v173 := Tryz.zeroValue141
 t175 := Tryz.underlying147
 a175 := Tryz.isAgg147
 z175 := Tryz.sizeOf147
 v175 := Tryz.zeroValue147
 t210 := Tryz.underlying165
 a210 := Tryz.isAgg165
 z210 := Tryz.sizeOf165
 v210 := Tryz.zeroValue165
 t212 := Tryz.underlying158
 a212 := Tryz.isAgg158
 z212 := Tryz.sizeOf158
 v212 := Tryz.zeroValue158
 t213 := Tryz.underlying160
 a213 := Tryz.isAgg160
 z213 := Tryz.sizeOf160
 t232 := Tryz.underlying174
 a232 := Tryz.isAgg174
 z232 := Tryz.sizeOf174
 v232 := Tryz.zeroValue174
 t233 := Tryz.underlying175
 a233 := Tryz.isAgg175
 z233 := Tryz.sizeOf175
 v233 := Tryz.zeroValue175
 g15 := by kernel_rfl
 g16 := by kernel_rfl
 g17 := by kernel_rfl
 g18 := by kernel_rfl
 g19 := by kernel_rfl
 t80 := Tryz.underlying72
 a80 := Tryz.isAgg72
 z80 := Tryz.sizeOf72
 v80 := Tryz.zeroValue72
 i0 := by kernel_rfl
 i2 := by kernel_rfl
 i3 := by kernel_rfl
 i4 := by kernel_rfl
 i5 := by kernel_rfl
 i9 := by kernel_rfl
 i20 := by kernel_rfl
 i21 := by kernel_rfl
 i37 := by kernel_rfl
 i46 := by kernel_rfl
 i51 := by kernel_rfl
 i53 := by kernel_rfl
 i75 := by kernel_rfl
 i76 := by kernel_rfl
 i80 := by kernel_rfl
 i85 := by kernel_rfl
 i127 := by kernel_rfl
 i143 := by kernel_rfl
 i145 := by kernel_rfl
 i167 := by kernel_rfl
 i168 := by kernel_rfl
 i171 := by kernel_rfl
 i173 := by kernel_rfl
 i175 := by kernel_rfl
 i210 := by kernel_rfl
 i212 := by kernel_rfl
 i232 := by kernel_rfl
 i233 := by kernel_rfl
 m15 := by kernel_rfl
 m16 := by kernel_rfl
 m17 := by kernel_rfl
 m18 := by kernel_rfl
 m19 := by kernel_rfl
 c0 := by kernel_rfl
 c2 := by kernel_rfl
 c3 := by kernel_rfl
 c4 := by kernel_rfl
 c5 := by kernel_rfl
 c9 := by kernel_rfl
 c20 := by kernel_rfl
 c21 := by kernel_rfl
 c37 := by kernel_rfl
 c46 := by kernel_rfl
 c51 := by kernel_rfl
 c53 := by kernel_rfl
 c75 := by kernel_rfl
 c76 := by kernel_rfl
 c80 := by kernel_rfl
 c85 := by kernel_rfl
 c127 := by kernel_rfl
 c143 := by kernel_rfl
 c145 := by kernel_rfl
 c167 := by kernel_rfl
 c168 := by kernel_rfl
 c171 := by kernel_rfl
 c173 := by kernel_rfl
 c175 := by kernel_rfl
 c210 := by kernel_rfl
 c212 := by kernel_rfl
 c213 := by kernel_rfl
 c232 := by kernel_rfl
 c233 := by kernel_rfl
theorem atoi_n (s : ByteArray) (hs : s.size ≤ 281474976710656) (v : Int) (h : Lib.parseIntB 64 s.data.toList = .ok v) (w : World) :
    Calls Tryz.prog 125 #[.string s] w fun e w' => e = .returned (.tuple #[.int .i64 v, .nilIface]) ∧ Below w.heap.size w w' := by
 have hbytes : ∀ t : ByteArray, Below w.heap.size w (Lib.bytesWorld w 5 t) := fun t => ⟨rfl, rfl, rfl, by rw [Lib.bytesWorld_size]; omega, fun j hj => Lib.bytesWorld_at_old w 5 t j hj⟩
 rw [Lib.parseIntB_64] at h
 refine (Any.strconv_Atoi_ok laysAt s (by omega) v h w).mono ?_
 rintro e w' ⟨he, hw⟩
 refine ⟨he, ?_⟩
 rcases hw with rfl | ⟨t, rfl⟩
 ·exact Below.refl _ _
 ·exact hbytes t
end Go.Proofs.YtnpgpcnkdocknaaGreatDoor
namespace Go.Proofs.YtnpgpcnkdocknaaGreatDoor
open Go.RowKit
set_option linter.unusedVariables false
theorem words1 {p : Nat} (W : World) (s : Str) (hs : okS s) (hp : p < W.heap.size) : WordsAt p (W.alloc (.cells #[.string s] 9)) [s] (.slice (some ⟨W.heap.size, 0, none⟩) 1 1) :=
 words_lit W [s] (fun x hx => by rw [List.mem_singleton.1 hx]; exact hs) (by simp) hp
set_option maxHeartbeats 4000000 in
set_option maxRecDepth 100000 in
theorem patom_step (n : Nat) (h1 : ∀ m, m < n → PEx 44 m 0) : PEx 115 n 3 := by
 intro p en ts w out ho h
 cases n with
 | zero => cases ho
 | succ n =>
 have hlt := h.lt
 have bl0 : Below w.heap.size w (w.alloc (.cells #[.int .i64 0, .int .i64 0, .string ⟨#[]⟩, .slice none 0 0] 80)) := (Below.refl _ _).alloc (Nat.le_refl _) _
 have HB0 := hid (But.of_b (T := Is p) bl0)
 have HP0 := hid (h.below bl0)
 have HR0 := hid (Blk.made w [.int .i64 0, .int .i64 0, .string ⟨#[]⟩, .slice none 0 0] 80 (base := 0) (Nat.zero_le _))
 obtain ⟨d, hd⟩ : ∃ d, d = w.heap.size := ⟨_, rfl⟩
 have hdp : ¬ d = p := by omega
 have hdw : w.heap.size ≤ d := by omega
 have hpd : p < d := by omega
 have hWd : d < (w.alloc (.cells #[.int .i64 0, .int .i64 0, .string ⟨#[]⟩, .slice none 0 0] 80)).heap.size := by simp [hd]
 rw [← hd] at HR0
 cases hop : isT (bz [40]) ts with
 | true =>
  ·skip
   obtain ⟨t, r, rfl, _⟩ := isT_true hop
   rw [exG_open hop, List.tail_cons] at ho
   have HI := hid (pis_any (bz [40]) HP0.out)
   rw [hop] at HI
   have H1 := hid (h1 n (by omega))
   have HE := hid ho
   clear ho h bl0 h1 hop
   go_enter Tryz.func115, Tryz.ntmps115
   go_upto_region 1 with (fail)
   rw [← hd]
   clear hd
   generalize (w.alloc (.cells #[.int .i64 0, .int .i64 0, .string ⟨#[]⟩, .slice none 0 0] 80)) = W0 at *
   go_upto_region 3 with (first | (go_at_call 69; refine HI.out.mono ?_; rintro e wa ⟨rfl, rfl⟩) | (go_at_call 70; refine (ptake_any HP0.out).mono ?_; rintro e W1 ⟨rfl, hp1, hb1⟩))
   have HB1 := hid (HB0.out.trans hb1)
   have HP1 := hid hp1
   have HR1 := hid (HR0.out.but hb1 (fun e => hdp e))
   have hz1 := hb1.size
   clear hp1 hb1 HB0 HP0 HR0 HI
   rcases PO.bind_some HE.out with ⟨q, e1, e2⟩ | ⟨a, q, e1, e2⟩
   ·have HC := hid (H1.out p en r W1 _ e1 HP1.out)
    have HO := hid e2
    clear e1 e2 HE H1
    go_wp2_with (go_at_call 44; refine HC.out.mono ?_; rintro e w2 ⟨rfl, hb2⟩)
    rw [HO.out]
    exact ⟨rfl, rfl, HB1.out.trans hb2⟩
   ·have HC := hid (H1.out p en r W1 _ e1 HP1.out)
    have HE2 := hid e2
    clear e1 e2 HE H1
    go_upto_region 4 with (go_at_call 44; refine HC.out.mono ?_; rintro e w2 ⟨x, rfl, hx, hp2, hb2⟩; obtain ⟨A, c, rfl⟩ := hx.form)
    have bl2 : Below w2.heap.size w2 (w2.alloc (.cells #[.int .i64 a.kind, .int .i64 a.num, .string a.name, .slice A a.args.length c] 80)) := (Below.refl _ _).alloc (Nat.le_refl _) _
    have HB2 := hid (HB1.out.trans (hb2.trans (But.of_b bl2)))
    have HP2 := hid (hp2.below bl2)
    have HX2 := hid (hx.below bl2)
    have HR2 := hid ((HR1.out.but hb2 (fun e => hdp e)).below bl2)
    have HY2 := hid (Blk.made w2 [.int .i64 a.kind, .int .i64 a.num, .string a.name, .slice A a.args.length c] 80 (base := 0) (Nat.zero_le _))
    have hz2 := hb2.size
    obtain ⟨d1, hd1⟩ : ∃ d1, d1 = w2.heap.size := ⟨_, rfl⟩
    have hdd : ¬ d1 = p := by omega
    have hdW1 : d < W1.heap.size := by omega
    have hpW2 : p < (w2.alloc (.cells #[.int .i64 a.kind, .int .i64 a.num, .string a.name, .slice A a.args.length c] 80)).heap.size := by simp; omega
    rw [← hd1] at HY2 ⊢
    clear hx hp2 hb2 bl2 HB1 HP1 HR1 HC hd1
    generalize (w2.alloc (.cells #[.int .i64 a.kind, .int .i64 a.num, .string a.name, .slice A a.args.length c] 80)) = W2 at *
    have bl3 : Below W2.heap.size W2 (W2.alloc (.cells #[.string ⟨#[41]⟩] 9)) := (Below.refl _ _).alloc (Nat.le_refl _) _
    have HW := hid (pwant_any (HP2.out.below bl3) (show WordsAt p (W2.alloc (.cells #[.string ⟨#[41]⟩] 9)) [bz [41]] (.slice (some ⟨W2.heap.size, 0, none⟩) 1 1) from words1 W2 (bz [41]) (by unfold okS; decide) hpW2))
    have HB3 := hid (HB2.out.trans (But.of_b bl3))
    have HX3 := hid (HX2.out.below bl3)
    have HR3 := hid (HR2.out.below bl3)
    have HY3 := hid (HY2.out.below bl3)
    clear bl3 HB2 HP2 HX2 HR2 HY2
    rcases PO.bind_some HE2.out with ⟨q2, e1, e2⟩ | ⟨u, q2, e1, e2⟩
    ·have HO := hid e2
     have e3 := Option.some.inj e1
     rw [e3] at HW
     clear e1 e2 e3 HE2
     go_wp2_with (go_at_call 43; refine HW.out.mono ?_; rintro e w4 ⟨rfl, hb4⟩)
     rw [HO.out]
     exact ⟨rfl, rfl, HB3.out.trans hb4⟩
    ·have HO := hid (Option.some.inj e2).symm
     have e3 := Option.some.inj e1
     rw [e3] at HW
     clear e1 e2 e3 HE2
     go_wp2_with (go_at_call 43; refine HW.out.mono ?_; rintro e w4 ⟨x9, rfl, _, hp4, hb4⟩; have hR4 := HR3.out.but hb4 (fun e => hdp e); have hY4 := HY3.out.but hb4 (fun e => hdd e); have r0 := hR4.cell 0 _ rfl; have r1 := hR4.cell 1 _ rfl; have r2 := hR4.cell 2 _ rfl; have r3 := hR4.cell 3 _ rfl; have f0 := hR4.fr 0; have f1 := hR4.fr 1; have f2 := hR4.fr 2; have f3 := hR4.fr 3; have y0 := hY4.cell 0 _ rfl; have y1 := hY4.cell 1 _ rfl; have y2 := hY4.cell 2 _ rfl; have y3 := hY4.cell 3 _ rfl)
     exact ret_box Tryz.results115 hR4 (HX3.out.but hb4 (.inr rfl)) hp4 (HB3.out.trans hb4) hlt hdw hdW1 HO.out rfl rfl
 | false =>
  ·skip
   have HI := hid (pis_any (bz [40]) HP0.out)
   rw [hop] at HI
   cases ts with
   | nil =>
    have HO := hid (show out = .no [] by rw [exG_nil] at ho; exact (Option.some.inj ho).symm)
    clear ho h bl0 h1 hop
    go_enter Tryz.func115, Tryz.ntmps115
    go_upto_region 1 with (fail)
    rw [← hd]
    clear hd
    generalize (w.alloc (.cells #[.int .i64 0, .int .i64 0, .string ⟨#[]⟩, .slice none 0 0] 80)) = W0 at *
    obtain ⟨A, cap, c0, c1, f0, hl, hm⟩ := HP0.out.open_
    go_wp2_with (first | (go_at_call 69; refine HI.out.mono ?_; rintro e wa ⟨rfl, rfl⟩) | (go_at_call 71; refine (pname_r HP0.out).mono ?_; rintro e W1 ⟨rfl, hb1⟩))
    rw [HO.out]
    exact ⟨rfl, rfl, HB0.out.trans hb1⟩
   | cons t r =>
    have htk := h.toks t (List.mem_cons_self ..)
    by_cases hk : t.kind = 1
    ·have HO := hid (show out = .ok (numX t) r by rw [exG_num hop hk] at ho; exact (Option.some.inj ho).symm)
     obtain ⟨hv1, hv2⟩ := htk.1.val hk
     have hsz := htk.2
     obtain ⟨y, hy⟩ : ∃ y : Str, y = t.str := ⟨_, rfl⟩
     obtain ⟨z, hz⟩ : ∃ z : Int, z = (vA 0 t.text : Nat) := ⟨_, rfl⟩
     have HAT := hid (fun W => atoi_n y (by rw [hy]; show t.text.length ≤ _; omega) z (by rw [hy, hz]; exact hv2) W)
     have HN := hid (show numX t = .mk 1 z ⟨#[]⟩ [] by rw [hz]; rfl)
     have hz0 : inI z := by unfold inI; omega
     have HT := hid (ptake_any HP0.out)
     clear ho h bl0 h1 hop htk hv1 hv2 hz hsz
     go_enter Tryz.func115, Tryz.ntmps115
     go_upto_region 1 with (fail)
     rw [← hd]
     clear hd
     generalize (w.alloc (.cells #[.int .i64 0, .int .i64 0, .string ⟨#[]⟩, .slice none 0 0] 80)) = W0 at *
     obtain ⟨b, off, cap, c0, c1, f0, hl, hm, k0, k1, k2, hok, _⟩ := HP0.out.head
     rw [hk] at k0
     rw [← hy] at HT
     clear hok k1 k2 hk hy
     go_wp2_with (first | (go_at_call 69; refine HI.out.mono ?_; rintro e wa ⟨rfl, rfl⟩) | (go_at_call 70; refine HT.out.mono ?_; rintro e W1 ⟨rfl, hp1, hb1⟩) | (go_at_call 125; refine (HAT.out _).mono ?_; rintro e W2 ⟨rfl, hb2⟩; have hR2 := (HR0.out.but hb1 (fun e => hdp e)).below hb2; have r0 := hR2.cell 0 _ rfl; have r1 := hR2.cell 1 _ rfl; have r2 := hR2.cell 2 _ rfl; have r3 := hR2.cell 3 _ rfl; have f0 := hR2.fr 0; have f1 := hR2.fr 1; have f2 := hR2.fr 2; have f3 := hR2.fr 3))
     have hp2 := hp1.below hb2
     have hbb := HB0.out.trans (hb1.trans (But.of_b hb2))
     exact ret_box (a := .mk 1 z ⟨#[]⟩ []) (A := none) (c := 0) Tryz.results115 hR2 (RdE.leaf _ _ (by decide) hz0 (by decide)) hp2 hbb hlt hdw hWd (by rw [HO.out, HN.out]) rfl rfl
    ·rw [exG_name hop hk] at ho
     have HNM := hid (pname_r HP0.out)
     have HE := hid ho
     have hsz := htk.2
     have hkb : ((t.kind : Int) == 1) = false := by simpa using hk
     clear ho h bl0 h1 hop htk hk
     rcases PO.bind_some HE.out with ⟨q, e1, e2⟩ | ⟨s, q, e1, e2⟩
     ·have HO := hid e2
      have e3 := Option.some.inj e1
      rw [e3] at HNM
      clear e1 e2 HE e3
      go_enter Tryz.func115, Tryz.ntmps115
      go_upto_region 1 with (fail)
      rw [← hd]
      clear hd
      generalize (w.alloc (.cells #[.int .i64 0, .int .i64 0, .string ⟨#[]⟩, .slice none 0 0] 80)) = W0 at *
      obtain ⟨b, off, cap, c0, c1, f0, hl, hm, k0, k1, k2, hok, _⟩ := HP0.out.head
      clear hok k1 k2
      go_wp2_with (first | (go_at_call 69; refine HI.out.mono ?_; rintro e wa ⟨rfl, rfl⟩) | (go_at_call 71; refine HNM.out.mono ?_; rintro e W1 ⟨rfl, hb1⟩))
      rw [HO.out]
      exact ⟨rfl, rfl, HB0.out.trans hb1⟩
     ·have HO := hid (Option.some.inj e2).symm
      have e3 := Option.some.inj e1
      have hss : s.size ≤ 140737488355328 := by
       rw [nameG] at e3
       split at e3
       ·simp only [PR.ok.injEq] at e3
        rw [← e3.1]; show t.text.length ≤ _; omega
       ·cases e3
      rw [e3] at HNM
      clear e1 e2 HE e3 hsz
      go_enter Tryz.func115, Tryz.ntmps115
      go_upto_region 1 with (fail)
      rw [← hd]
      clear hd
      generalize (w.alloc (.cells #[.int .i64 0, .int .i64 0, .string ⟨#[]⟩, .slice none 0 0] 80)) = W0 at *
      obtain ⟨b, off, cap, c0, c1, f0, hl, hm, k0, k1, k2, hok, _⟩ := HP0.out.head
      clear hok k1 k2
      go_wp2_with (first | (go_at_call 69; refine HI.out.mono ?_; rintro e wa ⟨rfl, rfl⟩) | (go_at_call 71; refine HNM.out.mono ?_; rintro e W1 ⟨x9, rfl, rfl, hp1, hb1⟩; have hR2 := HR0.out.but hb1 (fun e => hdp e); have r0 := hR2.cell 0 _ rfl; have r1 := hR2.cell 1 _ rfl; have r2 := hR2.cell 2 _ rfl; have r3 := hR2.cell 3 _ rfl; have f0 := hR2.fr 0; have f1 := hR2.fr 1; have f2 := hR2.fr 2; have f3 := hR2.fr 3))
      exact ret_box (a := .mk 2 0 s []) (A := none) (c := 0) Tryz.results115 hR2 (RdE.leaf _ _ (by decide) (by decide) hss) hp1 (HB0.out.trans hb1) hlt hdw hWd HO.out rfl rfl
theorem pqx_all (n : Nat) : PEx 44 n 0 ∧ PEx 72 n 1 ∧ PEx 94 n 2 ∧ PEx 115 n 3 := by
 induction n using Nat.strongRecOn with
 | ind n ih => exact ⟨pexpr_step n (fun m hm => (ih m hm).2.1), psum_step n (fun m hm => (ih m hm).2.2.1), pproduct_step n (fun m hm => (ih m hm).2.2.2), patom_step n (fun m hm => (ih m hm).1)⟩
theorem pexpr_any (n : Nat) : PEx 44 n 0 := (pqx_all n).1
def setL (w : World) (R : Nat) : Nat → List Value → World
 | _, [] => w
 | o, v :: vs => setL (w.setCell ⟨R, o, none⟩ v) R (o + 1) vs
def setV : List Value → Nat → List Value → List Value
 | l, _, [] => l
 | l, o, v :: vs => setV (l.set o v) (o + 1) vs
theorem setL_blk {base R : Nat} : ∀ (vs : List Value) (w : World) (o : Nat) (l : List Value), Blk base w R l → o + vs.length ≤ l.length → Blk base (setL w R o vs) R (setV l o vs)
 | [], w, o, l, h, _ => h
 | v :: vs, w, o, l, h, hl => setL_blk vs _ _ _ (h.set (i := o) (by simp only [List.length_cons] at hl; omega) v) (by simp only [List.length_cons, List.length_set] at *; omega)
theorem setL_but {T : Blocks} {a : World} {R : Nat} (hR : T R ∨ a.heap.size ≤ R) : ∀ (vs : List Value) (w : World) (o : Nat), But T a w → But T a (setL w R o vs)
 | [], w, o, h => h
 | v :: vs, w, o, h => setL_but hR vs _ _ (h.setNew (p := ⟨R, o, none⟩) hR v)
theorem setL_is (W : World) (R o : Nat) (vs : List Value) : But (Is R) W (setL W R o vs) := setL_but (.inl (show Is R R from rfl)) vs W o (But.refl _ _)
def rdS (lo y : Nat) (w : World) (l : List St) (V : Value) : Prop := RdSts w (Rn lo y w) l V
section
variable {w w' : World} {lo y z lo' y' : Nat} {l : List St} {V : Value}
theorem rdS.but (h : rdS lo y w l V) (hb : But (Is z) w w') (hz : z < lo ∨ z = y) : rdS lo y w' l V := RdL.keep h RdSt.keeps (Rn.sub hb.size) (Rn.same hb hz)
theorem rdS.below (h : rdS lo y w l V) (hb : Below w.heap.size w w') : rdS lo y w' l V := RdL.keep h RdSt.keeps (Rn.sub hb.size) (same_of_below hb Rn.upto)
theorem rdS.to (h : rdS lo y w l V) (hl : lo' ≤ lo) (hy : y' < lo ∨ w.heap.size ≤ y' ∨ y' = y) : rdS lo' y' w l V := RdL.sub h RdSt.keeps (Rn.to hl hy)
theorem rdS.form (h : rdS lo y w l V) : ∃ A c, V = .slice A l.length c := by obtain ⟨A, c, h1, _⟩ := RdL.form h; exact ⟨A, c, h1⟩
theorem rdS.nil (lo y : Nat) (w : World) : rdS lo y w [] (.slice none 0 0) := RdL.nil (by unfold maxLen; omega)
theorem rdE.no (lo y : Nat) (w : World) : rdE lo y w noX (exV noX.kind noX.num noX.name (.slice none noX.args.length 0)) := RdE.leaf _ _ (by decide) (by decide) (by decide)
end
abbrev stC (k : Int) (s : Str) (a b : Ex) (l m : List St) (A1 A2 A3 A4 : Option Addr) (c1 c2 c3 c4 : Nat) : List Value :=
 [.int .i64 k, .string s, .int .i64 a.kind, .int .i64 a.num, .string a.name, .slice A1 a.args.length c1, .int .i64 b.kind, .int .i64 b.num, .string b.name, .slice A2 b.args.length c2, .slice A3 l.length c3, .slice A4 m.length c4]
def rdSt (lo y : Nat) (w : World) (st : St) (V : Value) : Prop := ∃ cs, V = .agg cs.toArray ∧ RdSt w (Rn lo y w) st cs
structure BSt (d : Nat) (z : List Value) (p lo d1 : Nat) (en : En) (w W : World) (q : List LTok) (k : Int) (s : Str) (a b : Ex) (l m : List St) (A1 A2 A3 A4 : Option Addr) (c1 c2 c3 c4 : Nat) : Prop where
 pl : p < lo
 pd : p < d1
 wl : w.heap.size ≤ lo
 wd : w.heap.size ≤ d1
 hk : inI k
 hs : s.size ≤ 140737488355328
 bt : But (Is p) w W
 ps : PsAt p en W q
 box : Blk 0 W d1 (stC k s a b l m A1 A2 A3 A4 c1 c2 c3 c4)
 xa : rdE lo d1 W a (exV a.kind a.num a.name (.slice A1 a.args.length c1))
 xb : rdE lo d1 W b (exV b.kind b.num b.name (.slice A2 b.args.length c2))
 xl : rdS lo d1 W l (.slice A3 l.length c3)
 xm : rdS lo d1 W m (.slice A4 m.length c4)
 lw : lo ≤ W.heap.size
 res : z ≠ [] → d ≠ p ∧ d ≠ d1 ∧ Blk 0 W d z
section
variable {d : Nat} {z : List Value} {p lo d1 : Nat} {en : En} {w W W' : World} {q q' : List LTok} {k k' : Int} {s : Str} {a b a' : Ex} {l m l' : List St} {A1 A2 A3 A4 A' : Option Addr} {c1 c2 c3 c4 c' : Nat}
theorem BSt.step (h : BSt d z p lo d1 en w W q k s a b l m A1 A2 A3 A4 c1 c2 c3 c4) (hb : But (Is p) W W') (hp : PsAt p en W' q') : BSt d z p lo d1 en w W' q' k s a b l m A1 A2 A3 A4 c1 c2 c3 c4 :=
 ⟨h.pl, h.pd, h.wl, h.wd, h.hk, h.hs, h.bt.trans hb, hp, h.box.but hb (fun e => by have := h.pd; unfold Is at e; omega), h.xa.but hb (.inl h.pl), h.xb.but hb (.inl h.pl), h.xl.but hb (.inl h.pl), h.xm.but hb (.inl h.pl), Nat.le_trans h.lw hb.size, fun hz => ⟨(h.res hz).1, (h.res hz).2.1, (h.res hz).2.2.but hb (fun e => (h.res hz).1 e)⟩⟩
theorem BSt.lt (h : BSt d z p lo d1 en w W q k s a b l m A1 A2 A3 A4 c1 c2 c3 c4) : d1 < W.heap.size := h.box.lt
theorem BSt.pW (h : BSt d z p lo d1 en w W q k s a b l m A1 A2 A3 A4 c1 c2 c3 c4) : p < W.heap.size := h.ps.lt
theorem BSt.setA (h : BSt d z p lo d1 en w W q k s a b l m A1 A2 A3 A4 c1 c2 c3 c4) (hx : rdE lo d1 W a' (exV a'.kind a'.num a'.name (.slice A' a'.args.length c'))) : BSt d z p lo d1 en w (setL W d1 2 [.int .i64 a'.kind, .int .i64 a'.num, .string a'.name, .slice A' a'.args.length c']) q k s a' b l m A' A2 A3 A4 c' c2 c3 c4 :=
 have hb := setL_is W d1 2 [.int .i64 a'.kind, .int .i64 a'.num, .string a'.name, .slice A' a'.args.length c']
 ⟨h.pl, h.pd, h.wl, h.wd, h.hk, h.hs, setL_but (.inr h.wd) _ _ _ h.bt, h.ps.but hb h.pd, setL_blk _ _ _ _ h.box (by simp), hx.but hb (.inr rfl), h.xb.but hb (.inr rfl), h.xl.but hb (.inr rfl), h.xm.but hb (.inr rfl), Nat.le_trans h.lw hb.size, fun hz => ⟨(h.res hz).1, (h.res hz).2.1, (h.res hz).2.2.but hb (fun e => (h.res hz).2.1 e)⟩⟩
theorem BSt.setB (h : BSt d z p lo d1 en w W q k s a b l m A1 A2 A3 A4 c1 c2 c3 c4) (hx : rdE lo d1 W a' (exV a'.kind a'.num a'.name (.slice A' a'.args.length c'))) : BSt d z p lo d1 en w (setL W d1 6 [.int .i64 a'.kind, .int .i64 a'.num, .string a'.name, .slice A' a'.args.length c']) q k s a a' l m A1 A' A3 A4 c1 c' c3 c4 :=
 have hb := setL_is W d1 6 [.int .i64 a'.kind, .int .i64 a'.num, .string a'.name, .slice A' a'.args.length c']
 ⟨h.pl, h.pd, h.wl, h.wd, h.hk, h.hs, setL_but (.inr h.wd) _ _ _ h.bt, h.ps.but hb h.pd, setL_blk _ _ _ _ h.box (by simp), h.xa.but hb (.inr rfl), hx.but hb (.inr rfl), h.xl.but hb (.inr rfl), h.xm.but hb (.inr rfl), Nat.le_trans h.lw hb.size, fun hz => ⟨(h.res hz).1, (h.res hz).2.1, (h.res hz).2.2.but hb (fun e => (h.res hz).2.1 e)⟩⟩
theorem BSt.setBody (h : BSt d z p lo d1 en w W q k s a b l m A1 A2 A3 A4 c1 c2 c3 c4) (hx : rdS lo d1 W l' (.slice A' l'.length c')) : BSt d z p lo d1 en w (setL W d1 10 [.slice A' l'.length c']) q k s a b l' m A1 A2 A' A4 c1 c2 c' c4 :=
 have hb := setL_is W d1 10 [.slice A' l'.length c']
 ⟨h.pl, h.pd, h.wl, h.wd, h.hk, h.hs, setL_but (.inr h.wd) _ _ _ h.bt, h.ps.but hb h.pd, setL_blk _ _ _ _ h.box (by simp), h.xa.but hb (.inr rfl), h.xb.but hb (.inr rfl), hx.but hb (.inr rfl), h.xm.but hb (.inr rfl), Nat.le_trans h.lw hb.size, fun hz => ⟨(h.res hz).1, (h.res hz).2.1, (h.res hz).2.2.but hb (fun e => (h.res hz).2.1 e)⟩⟩
theorem BSt.setElse (h : BSt d z p lo d1 en w W q k s a b l m A1 A2 A3 A4 c1 c2 c3 c4) (hx : rdS lo d1 W l' (.slice A' l'.length c')) : BSt d z p lo d1 en w (setL W d1 11 [.slice A' l'.length c']) q k s a b l l' A1 A2 A3 A' c1 c2 c3 c' :=
 have hb := setL_is W d1 11 [.slice A' l'.length c']
 ⟨h.pl, h.pd, h.wl, h.wd, h.hk, h.hs, setL_but (.inr h.wd) _ _ _ h.bt, h.ps.but hb h.pd, setL_blk _ _ _ _ h.box (by simp), h.xa.but hb (.inr rfl), h.xb.but hb (.inr rfl), h.xl.but hb (.inr rfl), hx.but hb (.inr rfl), Nat.le_trans h.lw hb.size, fun hz => ⟨(h.res hz).1, (h.res hz).2.1, (h.res hz).2.2.but hb (fun e => (h.res hz).2.1 e)⟩⟩
theorem BSt.setKind (h : BSt d z p lo d1 en w W q k s a b l m A1 A2 A3 A4 c1 c2 c3 c4) (hk' : inI k') : BSt d z p lo d1 en w (setL W d1 0 [.int .i64 k']) q k' s a b l m A1 A2 A3 A4 c1 c2 c3 c4 :=
 have hb := setL_is W d1 0 [.int .i64 k']
 ⟨h.pl, h.pd, h.wl, h.wd, hk', h.hs, setL_but (.inr h.wd) _ _ _ h.bt, h.ps.but hb h.pd, setL_blk _ _ _ _ h.box (by simp), h.xa.but hb (.inr rfl), h.xb.but hb (.inr rfl), h.xl.but hb (.inr rfl), h.xm.but hb (.inr rfl), Nat.le_trans h.lw hb.size, fun hz => ⟨(h.res hz).1, (h.res hz).2.1, (h.res hz).2.2.but hb (fun e => (h.res hz).2.1 e)⟩⟩
theorem BSt.rd (h : BSt d z p lo d1 en w W q k s a b l m A1 A2 A3 A4 c1 c2 c3 c4) : RdSt W (Rn lo d1 W) (.mk k s a b l m) (stC k s a b l m A1 A2 A3 A4 c1 c2 c3 c4) :=
 RdSt.shut h.hk h.hs (RdE.toX h.xa) (RdE.toX h.xb) h.xl h.xm
theorem BSt.made (hp : PsAt p en W q) (hpl : p < lo) (hwl : w.heap.size ≤ lo) (hwW : w.heap.size ≤ W.heap.size) (hk : inI k) (hs : s.size ≤ 140737488355328) (hb : But (Is p) w W)
    (xa : rdE lo W.heap.size W a (exV a.kind a.num a.name (.slice A1 a.args.length c1))) (xl : rdS lo W.heap.size W l (.slice A3 l.length c3)) (hlo : lo ≤ W.heap.size) (hres : z ≠ [] → d ≠ p ∧ Blk 0 W d z) :
    BSt d z p lo W.heap.size en w (W.alloc (.cells (stC k s a noX l [] A1 none A3 none c1 0 c3 0).toArray 82)) q k s a noX l [] A1 none A3 none c1 0 c3 0 :=
 have bl : Below W.heap.size W (W.alloc (.cells (stC k s a noX l [] A1 none A3 none c1 0 c3 0).toArray 82)) := (Below.refl _ _).alloc (Nat.le_refl _) _
 ⟨hpl, hp.lt, hwl, hwW, hk, hs, hb.trans (But.of_b bl), hp.below bl, Blk.made W _ _ (Nat.zero_le _), xa.below bl, rdE.no _ _ _, xl.below bl, rdS.nil _ _ _, Nat.le_trans hlo bl.size, fun hz => ⟨(hres hz).1, Nat.ne_of_lt (hres hz).2.lt, (hres hz).2.below bl⟩⟩
theorem ret_st {fn : Func} {R : Ending → World → Prop} {act : Act} {T G base : Nat} (hr : fn.results = #[.cell T 82]) (ht : act.tmps.getD T undef = .pointer (some ⟨G, 0, none⟩)) (hd : act.defers = [])
    (B : Blk base w G (stC k s a b l m A1 A2 A3 A4 c1 c2 c3 c4)) (h : R (.returned (.agg (stC k s a b l m A1 A2 A3 A4 c1 c2 c3 c4).toArray)) w) : bodyPost Tryz.prog fn R .ret act w := by
 have r0 := B.cell 0 _ rfl; have r1 := B.cell 1 _ rfl; have r2 := B.cell 2 _ rfl; have r3 := B.cell 3 _ rfl; have r4 := B.cell 4 _ rfl; have r5 := B.cell 5 _ rfl; have r6 := B.cell 6 _ rfl; have r7 := B.cell 7 _ rfl; have r8 := B.cell 8 _ rfl; have r9 := B.cell 9 _ rfl; have r10 := B.cell 10 _ rfl; have r11 := B.cell 11 _ rfl
 rw [Array.getD_eq_getD_getElem?] at ht
 exact bodyPost_ret (v := .agg (stC k s a b l m A1 A2 A3 A4 c1 c2 c3 c4).toArray) (by simp [results, hr, ht, go_sem, r0, r1, r2, r3, r4, r5, r6, r7, r8, r9, r10, r11]) hd h
theorem ret_stbox {fn : Func} {act : Act} {T : Nat} {out : PR St} (hr : fn.results = #[.cell T 82]) (hz : z.length = 12) (h : BSt d z p lo d1 en w W q k s a b l m A1 A2 A3 A4 c1 c2 c3 c4) (hdw : w.heap.size ≤ d) (hdl : d < lo)
    (ho : out = .ok (.mk k s a b l m) q) (hpw : p < w.heap.size) (ht : act.tmps.getD T undef = .pointer (some ⟨d, 0, none⟩)) (hd : act.defers = []) {W9 : World} (hw9 : W9 = setL W d 0 (stC k s a b l m A1 A2 A3 A4 c1 c2 c3 c4)) :
    bodyPost Tryz.prog fn (POut p en w (rdSt w.heap.size p) out) .ret act W9 := by
 subst hw9
 have hB := (h.res (by intro e; rw [e] at hz; cases hz)).2.2
 have hb := setL_is W d 0 (stC k s a b l m A1 A2 A3 A4 c1 c2 c3 c4)
 have hB2 := setL_blk (stC k s a b l m A1 A2 A3 A4 c1 c2 c3 c4) W 0 z hB (by rw [hz]; simp)
 have e : setV z 0 (stC k s a b l m A1 A2 A3 A4 c1 c2 c3 c4) = stC k s a b l m A1 A2 A3 A4 c1 c2 c3 c4 := by
  match z, hz with
  | [_, _, _, _, _, _, _, _, _, _, _, _], _ => rfl
 rw [e] at hB2
 subst ho
 have hs2 : Sub (Rn lo d1 W) (Rn w.heap.size p (setL W d 0 (stC k s a b l m A1 A2 A3 A4 c1 c2 c3 c4))) := (Rn.to h.wl (.inl h.pl)).trans (Rn.sub hb.size)
 have hr2 := RdSt.keeps _ _ _ _ _ _ hs2 (Rn.same hb (.inl hdl)) h.rd
 refine ret_st hr ht hd hB2 ⟨_, rfl, ⟨_, rfl, hr2⟩, h.ps.but hb (by omega), setL_but (.inr hdw) _ _ _ h.bt⟩
end
theorem nameG_size {ts r : List LTok} {s : Str} (h : ∀ t ∈ ts, tokOk t) (e : nameG ts = .ok s r) : s.size ≤ 1048576 := by
 cases ts with
 | nil => cases e
 | cons t q =>
  rw [nameG] at e
  split at e
  ·simp only [PR.ok.injEq] at e
   rw [← e.1]; exact (h t (List.mem_cons_self ..)).2
  ·cases e
def PSs (n : Nat) : Prop := ∀ (p : Nat) (en : En) (ts : List LTok) (w : World) (out : PR (List St)), stsG n [] ts = some out → ts.length ≤ 1048576 → PsAt p en w ts → Calls Tryz.prog 23 #[.pointer (some ⟨p, 0, none⟩)] w (POut p en w (rdS w.heap.size p) out)
set_option maxHeartbeats 1000000 in
set_option maxRecDepth 100000 in
theorem pqblock_any (n : Nat) (hn : PSs n) (p : Nat) (en : En) (ts : List LTok) (w : World) (out : PR (List St)) (ho : blockG (stsG n []) ts = some out) (hl : ts.length ≤ 1048576) (h : PsAt p en w ts) :
    Calls Tryz.prog 74 #[.pointer (some ⟨p, 0, none⟩)] w (POut p en w (rdS w.heap.size p) out) := by
 unfold blockG at ho
 have hlt := h.lt
 have bl1 : Below w.heap.size w (w.alloc (.cells #[.string ⟨#[123]⟩] 9)) := (Below.refl _ _).alloc (Nat.le_refl _) _
 have HW := hid (pwant_any (h.below bl1) (show WordsAt p (w.alloc (.cells #[.string ⟨#[123]⟩] 9)) [bz [123]] (.slice (some ⟨w.heap.size, 0, none⟩) 1 1) from words1 w (bz [123]) (by unfold okS; decide) hlt))
 have HB1 := hid (But.of_b (T := Is p) bl1)
 clear h bl1
 rcases PO.bind_some ho with ⟨q, e1, e2⟩ | ⟨u, q, e1, e2⟩
 ·have e3 := Option.some.inj e1
  rw [e3] at HW
  have HO := hid e2
  clear e1 e2 e3 ho
  go_enter Tryz.func74, Tryz.ntmps74
  go_wp2_with (go_at_call 43; refine HW.out.mono ?_; rintro e w4 ⟨rfl, hb4⟩)
  rw [HO.out]
  exact ⟨rfl, rfl, HB1.out.trans hb4⟩
 ·have e3 := Option.some.inj e1
  have hq := wantG_len e3
  simp only [List.length_cons, List.length_nil] at hq
  rw [e3] at HW
  have HE := hid e2
  have HN := hid hn
  clear e1 e2 e3 ho hn
  go_enter Tryz.func74, Tryz.ntmps74
  go_upto_region 2 with (go_at_call 43; refine HW.out.mono ?_; rintro e w4 ⟨x, rfl, _, hp4, hb4⟩)
  have HB4 := hid (HB1.out.trans hb4)
  have HP4 := hid hp4
  have hz4 := HB4.out.size
  clear hb4 hp4 HB1 HW
  rcases PO.bind_some HE.out with ⟨r, e1, e2⟩ | ⟨l, r, e1, e2⟩
  ·have HO := hid e2
   have HC := hid (HN.out p en q w4 _ e1 (by omega) HP4.out)
   clear e1 e2 HE HN
   go_wp2_with (go_at_call 23; refine HC.out.mono ?_; rintro e w5 ⟨rfl, hb5⟩)
   rw [HO.out]
   exact ⟨rfl, rfl, HB4.out.trans hb5⟩
  ·have HC := hid (HN.out p en q w4 _ e1 (by omega) HP4.out)
   have HE2 := hid e2
   clear e1 e2 HE HN
   go_upto_region 3 with (go_at_call 23; refine HC.out.mono ?_; rintro e w5 ⟨x, rfl, hx, hp5, hb5⟩; obtain ⟨A, c, rfl⟩ := hx.form)
   have HB5 := hid (HB4.out.trans hb5)
   have HX5 := hid (hx.to (lo' := w.heap.size) (y' := p) hz4 (.inr (.inr rfl)))
   have bl6 : Below w5.heap.size w5 (w5.alloc (.cells #[.string ⟨#[125]⟩] 9)) := (Below.refl _ _).alloc (Nat.le_refl _) _
   have HW := hid (pwant_any (hp5.below bl6) (show WordsAt p (w5.alloc (.cells #[.string ⟨#[125]⟩] 9)) [bz [125]] (.slice (some ⟨w5.heap.size, 0, none⟩) 1 1) from words1 w5 (bz [125]) (by unfold okS; decide) hp5.lt))
   have HB6 := hid (HB5.out.trans (But.of_b bl6))
   have HX6 := hid (HX5.out.below bl6)
   clear hx hp5 hb5 bl6 HB5 HX5 HC HB4 HP4
   rcases PO.bind_some HE2.out with ⟨q2, e1, e2⟩ | ⟨u, q2, e1, e2⟩
   ·have e3 := Option.some.inj e1
    rw [e3] at HW
    have HO := hid e2
    clear e1 e2 e3 HE2
    go_wp2_with (go_at_call 43; refine HW.out.mono ?_; rintro e w7 ⟨rfl, hb7⟩)
    rw [HO.out]
    exact ⟨rfl, rfl, HB6.out.trans hb7⟩
   ·have e3 := Option.some.inj e1
    rw [e3] at HW
    have HO := hid (Option.some.inj e2).symm
    clear e1 e2 e3 HE2
    go_wp2_with (go_at_call 43; refine HW.out.mono ?_; rintro e w7 ⟨x7, rfl, _, hp7, hb7⟩)
    go_ret
    rw [HO.out]
    exact ⟨_, rfl, HX6.out.but hb7 (.inl hlt), hp7, HB6.out.trans hb7⟩
end Go.Proofs.YtnpgpcnkdocknaaGreatDoor
