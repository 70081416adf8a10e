/- Texts merged: Kq4, NumLib, Kq5. -/
import Derived.Test.YtnpgpcnkdocknaaGreatDoorGKq3
import Derived.Shelf.Strconv.ParseIntPublic10
import Derived.Shelf.Strconv.Itoa4
import Derived.Lib.ParseIntBTie
import Derived.Lib.ConvBytes
import Derived.WalkSmall
import Derived.Test.YtnpgpcnkdocknaaGreatDoorBase
import Derived.Test.YtnpgpcnkdocknaaGreatDoorGPq7
namespace Go.Proofs.YtnpgpcnkdocknaaGreatDoor
open Go.RowKit
set_option linter.unusedVariables false
def KEx (n lvl : Nat) : Prop := ∀ (k f : Nat) (L : List LTok) (w : World) (a : Nat) (out : PR Ex), exG n (.ex lvl) (L.drop a) = some out → RkAt k L w f → a ≤ L.length → f ≤ a →
 Calls Tryz.prog 83 #[.pointer (some ⟨k, 0, none⟩), .int .i64 (a : Int), .int .i64 (lvl : Int)] w (KqOut k L w (rdE w.heap.size k) out)
def KAt (n : Nat) : Prop := ∀ (k f : Nat) (L : List LTok) (w : World) (a : Nat) (out : PR Ex), exG n (.ex 3) (L.drop a) = some out → RkAt k L w f → a ≤ L.length → f ≤ a →
 Calls Tryz.prog 106 #[.pointer (some ⟨k, 0, none⟩), .int .i64 (a : Int)] w (KqOut k L w (rdE w.heap.size k) out)
theorem ret_kq {fn : Func} {R : Ending → World → Prop} {act : Act} {w : World} {T T1 T2 G base : Nat} {k c z : Int} {ok : Bool} {s : Str} {v : Value} (hr : fn.results = #[.cell T 80, .tmp T1, .tmp T2]) (ht : act.tmps.getD T undef = .pointer (some ⟨G, 0, none⟩)) (h1 : act.tmps.getD T1 undef = .int .i64 z) (h2 : act.tmps.getD T2 undef = .bool ok) (hd : act.defers = [])
    (B : Blk base w G [.int .i64 k, .int .i64 c, .string s, v]) (h : R (.returned (.tuple #[exV k c s v, .int .i64 z, .bool ok])) w) : bodyPost Tryz.prog fn R .ret act w := by
 have r0 := B.cell 0 _ rfl; have r1 := B.cell 1 _ rfl; have r2 := B.cell 2 _ rfl; have r3 := B.cell 3 _ rfl
 rw [Array.getD_eq_getD_getElem?] at ht h1 h2
 exact bodyPost_ret (v := .tuple #[exV k c s v, .int .i64 z, .bool ok]) (by simp [results, hr, ht, h1, h2, go_sem, r0, r1, r2, r3]) hd h
theorem ret_kok {fn : Func} {act : Act} {T T1 T2 k d lo f b : Nat} {L : List LTok} {w w1 : World} {a : Ex} {A : Option Addr} {c : Nat} {r : List LTok} {out : PR Ex} {v0 v1 v2 v3 : Value} (hr : fn.results = #[.cell T 80, .tmp T1, .tmp T2])
    (hB : Blk 0 w1 d [v0, v1, v2, v3]) {y : Nat} (hx : rdE lo y w1 a (exV a.kind a.num a.name (.slice A a.args.length c))) (hy : y < lo → y = k) (hky : k < lo) (hp : RkAt k L w1 f) (hb : But (Is k) w w1) (hkw : k < w.heap.size) (hdw : w.heap.size ≤ d) (hdl : d < lo) (ho : out = .ok a r) (hbr : L.drop b = r) (hbl : b ≤ L.length) (hfb : f ≤ b)
    (ht : act.tmps.getD T undef = .pointer (some ⟨d, 0, none⟩)) (h1 : act.tmps.getD T1 undef = .int .i64 (b : Int)) (h2 : act.tmps.getD T2 undef = .bool true) (hd : act.defers = []) :
    bodyPost Tryz.prog fn (KqOut k L w (rdE w.heap.size k) out) .ret act (set4 w1 d (.int .i64 a.kind) (.int .i64 a.num) (.string a.name) (.slice A a.args.length c)) := by
 have HF2 := set4_blk hB (.int .i64 a.kind) (.int .i64 a.num) (.string a.name) (.slice A a.args.length c)
 have hbf : But (Is d) w1 (set4 w1 d (.int .i64 a.kind) (.int .i64 a.num) (.string a.name) (.slice A a.args.length c)) := set4_but (But.refl _ _) (.inl (show Is d d from rfl)) _ _ _ _
 have hx3 := (hx.but hbf (.inl hdl)).to (lo' := w.heap.size) (y' := k) (by omega) (.inl hky)
 have hp3 := hp.but hbf (by omega)
 have hb3 := set4_but hb (.inr hdw) (.int .i64 a.kind) (.int .i64 a.num) (.string a.name) (.slice A a.args.length c)
 subst ho
 exact ret_kq hr ht h1 h2 hd HF2 ⟨_, b, f, rfl, hx3, hbr, hbl, hfb, hp3, hb3⟩
theorem ret_kno {fn : Func} {act : Act} {T T1 T2 k d lo f : Nat} {z : Int} {L : List LTok} {w w1 : World} {a : Ex} {A : Option Addr} {c : Nat} {r : List LTok} {out : PR Ex} {v0 v1 v2 v3 : Value} (hr : fn.results = #[.cell T 80, .tmp T1, .tmp T2])
    (hB : Blk 0 w1 d [v0, v1, v2, v3]) {y : Nat} (hx : rdE lo y w1 a (exV a.kind a.num a.name (.slice A a.args.length c))) (hky : k < lo) (hp : RkAt k L w1 f) (hb : But (Is k) w w1) (hkw : k < w.heap.size) (hdw : w.heap.size ≤ d) (hdl : d < lo) (ho : out = .no r) (hfr : L.drop f = r)
    (ht : act.tmps.getD T undef = .pointer (some ⟨d, 0, none⟩)) (h1 : act.tmps.getD T1 undef = .int .i64 z) (h2 : act.tmps.getD T2 undef = .bool false) (hd : act.defers = []) :
    bodyPost Tryz.prog fn (KqOut k L w (rdE w.heap.size k) out) .ret act (set4 w1 d (.int .i64 a.kind) (.int .i64 a.num) (.string a.name) (.slice A a.args.length c)) := by
 have HF2 := set4_blk hB (.int .i64 a.kind) (.int .i64 a.num) (.string a.name) (.slice A a.args.length c)
 have hbf : But (Is d) w1 (set4 w1 d (.int .i64 a.kind) (.int .i64 a.num) (.string a.name) (.slice A a.args.length c)) := set4_but (But.refl _ _) (.inl (show Is d d from rfl)) _ _ _ _
 have hx3 := (hx.but hbf (.inl hdl)).to (lo' := w.heap.size) (y' := k) (by omega) (.inl hky)
 have hp3 := hp.but hbf (by omega)
 have hb3 := set4_but hb (.inr hdw) (.int .i64 a.kind) (.int .i64 a.num) (.string a.name) (.slice A a.args.length c)
 subst ho
 exact ret_kq hr ht h1 h2 hd HF2 ⟨_, z, f, rfl, ⟨a, hx3⟩, hfr, hp3, hb3⟩
theorem two_inA {lo y : Nat} {W w5 : World} {k : Int} {a b : Ex} {A1 A2 : Option Addr} {c1 c2 : Nat} (hk : inI k) (ha : rdE lo y W a (exV a.kind a.num a.name (.slice A1 a.args.length c1))) (hb : rdE lo y W b (exV b.kind b.num b.name (.slice A2 b.args.length c2))) (h5 : Below W.heap.size W w5) (hlo : lo ≤ W.heap.size) (hy : y < W.heap.size) :
    rdE lo y (w5.alloc (.cells #[.int .i64 a.kind, .int .i64 a.num, .string a.name, .slice A1 a.args.length c1, .int .i64 b.kind, .int .i64 b.num, .string b.name, .slice A2 b.args.length c2] 80)) (mkE k a b) (.agg #[.int .i64 k, .int .i64 0, .string noS, .slice (some ⟨w5.heap.size, 0, none⟩) 2 2]) := by
 have hz := h5.size
 have hbl := (Below.refl w5.heap.size w5).alloc (Nat.le_refl _) (.cells #[.int .i64 a.kind, .int .i64 a.num, .string a.name, .slice A1 a.args.length c1, .int .i64 b.kind, .int .i64 b.num, .string b.name, .slice A2 b.args.length c2] 80)
 have hblk := Blk.made w5 [.int .i64 a.kind, .int .i64 a.num, .string a.name, .slice A1 a.args.length c1, .int .i64 b.kind, .int .i64 b.num, .string b.name, .slice A2 b.args.length c2] 80 (base := 0) (Nat.zero_le _)
 exact RdE.two hk ((ha.below h5).below hbl) ((hb.below h5).below hbl) ⟨Nat.le_trans hlo hz, by simp, by omega⟩ hblk.cell
theorem two_inB {lo y : Nat} {W w5 : World} {k : Int} {a b : Ex} {A1 A2 : Option Addr} {c1 c2 : Nat} (hk : inI k) (ha : rdE lo y W a (exV a.kind a.num a.name (.slice A1 a.args.length c1))) (hb : rdE lo y W b (exV b.kind b.num b.name (.slice A2 b.args.length c2)))
    (h5 : Below (W.alloc (.cells #[.int .i64 a.kind, .int .i64 a.num, .string a.name, .slice A1 a.args.length c1, .int .i64 b.kind, .int .i64 b.num, .string b.name, .slice A2 b.args.length c2] 80)).heap.size (W.alloc (.cells #[.int .i64 a.kind, .int .i64 a.num, .string a.name, .slice A1 a.args.length c1, .int .i64 b.kind, .int .i64 b.num, .string b.name, .slice A2 b.args.length c2] 80)) w5) (hlo : lo ≤ W.heap.size) (hy : y < W.heap.size) :
    rdE lo y w5 (mkE k a b) (.agg #[.int .i64 k, .int .i64 0, .string noS, .slice (some ⟨W.heap.size, 0, none⟩) 2 2]) := by
 have h := two_inA hk ha hb (Below.refl _ _) hlo hy
 exact h.below h5
structure KReg (k d d1 lo g : Nat) (L : List LTok) (w WF : World) (X : Ex) (z : Nat) : Prop where
 x : rdE lo d1 WF X (exV X.kind X.num X.name (.slice (some ⟨z, 0, none⟩) X.args.length 2))
 p : RkAt k L WF g
 b : But (Is k) w WF
 y : Blk 0 WF d1 [.int .i64 X.kind, .int .i64 X.num, .string X.name, .slice (some ⟨z, 0, none⟩) X.args.length 2]
 r : Blk 0 WF d [.int .i64 0, .int .i64 0, .string ⟨#[]⟩, .slice none 0 0]
section
variable {k d d1 lo g : Nat} {L : List LTok} {w W w5 : World} {sg : Str} {a b : Ex} {A1 A2 : Option Addr} {c1 c2 : Nat} {v0 v1 v2 v3 : Value}
theorem KReg.of_a (ha : rdE lo d1 W a (exV a.kind a.num a.name (.slice A1 a.args.length c1))) (hb : rdE lo d1 W b (exV b.kind b.num b.name (.slice A2 b.args.length c2))) (hp : RkAt k L W g) (hw : But (Is k) w W) (hy : Blk 0 W d1 [v0, v1, v2, v3]) (hr : Blk 0 W d [.int .i64 0, .int .i64 0, .string ⟨#[]⟩, .slice none 0 0])
    (hkd : k < d1) (hwd : w.heap.size ≤ d1) (hdd : ¬ d1 = d) (hlo : lo ≤ W.heap.size) (h5 : Below W.heap.size W w5) :
    KReg k d d1 lo g L w ((set4 w5 d1 (.int .i64 (signK sg)) (.int .i64 0) (.string ⟨#[]⟩) (.slice (some ⟨w5.heap.size, 0, none⟩) 2 2)).alloc (.cells #[.int .i64 a.kind, .int .i64 a.num, .string a.name, .slice A1 a.args.length c1, .int .i64 b.kind, .int .i64 b.num, .string b.name, .slice A2 b.args.length c2] 80)) (twoX sg a b) w5.heap.size := by
 have hz := h5.size
 have hd1 := hy.lt
 have hs := set4_size w5 d1 (.int .i64 (signK sg)) (.int .i64 0) (.string ⟨#[]⟩) (.slice (some ⟨w5.heap.size, 0, none⟩) 2 2)
 have hbf : But (Is d1) w5 (set4 w5 d1 (.int .i64 (signK sg)) (.int .i64 0) (.string ⟨#[]⟩) (.slice (some ⟨w5.heap.size, 0, none⟩) 2 2)) := set4_but (But.refl _ _) (.inl (show Is d1 d1 from rfl)) _ _ _ _
 have hy5 := set4_blk (hy.below h5) (.int .i64 (signK sg)) (.int .i64 0) (.string ⟨#[]⟩) (.slice (some ⟨w5.heap.size, 0, none⟩) 2 2)
 have ha5 := (ha.below h5).but hbf (.inr rfl)
 have hb5 := (hb.below h5).but hbf (.inr rfl)
 have hp5 := (hp.below h5).but hbf hkd
 have hr5 := (hr.below h5).but hbf (fun e => hdd e.symm)
 have hw5 := set4_but (hw.trans (But.of_b h5)) (.inr hwd) (.int .i64 (signK sg)) (.int .i64 0) (.string ⟨#[]⟩) (.slice (some ⟨w5.heap.size, 0, none⟩) 2 2)
 generalize set4 w5 d1 (.int .i64 (signK sg)) (.int .i64 0) (.string ⟨#[]⟩) (.slice (some ⟨w5.heap.size, 0, none⟩) 2 2) = W6 at *
 have bl : Below W6.heap.size W6 (W6.alloc (.cells #[.int .i64 a.kind, .int .i64 a.num, .string a.name, .slice A1 a.args.length c1, .int .i64 b.kind, .int .i64 b.num, .string b.name, .slice A2 b.args.length c2] 80)) := (Below.refl _ _).alloc (Nat.le_refl _) _
 have h2 := two_inA (W := W6) (w5 := W6) (signK_in sg) ha5 hb5 (Below.refl _ _) (by omega) (by omega)
 rw [hs] at h2
 exact ⟨h2, hp5.below bl, hw5.trans (But.of_b bl), hy5.below bl, hr5.below bl⟩
theorem KReg.of_b (ha : rdE lo d1 W a (exV a.kind a.num a.name (.slice A1 a.args.length c1))) (hb : rdE lo d1 W b (exV b.kind b.num b.name (.slice A2 b.args.length c2))) (hp : RkAt k L W g) (hw : But (Is k) w W) (hy : Blk 0 W d1 [v0, v1, v2, v3]) (hr : Blk 0 W d [.int .i64 0, .int .i64 0, .string ⟨#[]⟩, .slice none 0 0])
    (hkd : k < d1) (hwd : w.heap.size ≤ d1) (hdd : ¬ d1 = d) (hlo : lo ≤ W.heap.size)
    (h5 : Below (W.alloc (.cells #[.int .i64 a.kind, .int .i64 a.num, .string a.name, .slice A1 a.args.length c1, .int .i64 b.kind, .int .i64 b.num, .string b.name, .slice A2 b.args.length c2] 80)).heap.size (W.alloc (.cells #[.int .i64 a.kind, .int .i64 a.num, .string a.name, .slice A1 a.args.length c1, .int .i64 b.kind, .int .i64 b.num, .string b.name, .slice A2 b.args.length c2] 80)) w5) :
    KReg k d d1 lo g L w (set4 w5 d1 (.int .i64 (signK sg)) (.int .i64 0) (.string ⟨#[]⟩) (.slice (some ⟨W.heap.size, 0, none⟩) 2 2)) (twoX sg a b) W.heap.size := by
 have h6 : Below W.heap.size W w5 := ((Below.refl _ _).alloc (Nat.le_refl _) _).trans (h5.mono (by simp))
 have hbf : But (Is d1) w5 (set4 w5 d1 (.int .i64 (signK sg)) (.int .i64 0) (.string ⟨#[]⟩) (.slice (some ⟨W.heap.size, 0, none⟩) 2 2)) := set4_but (But.refl _ _) (.inl (show Is d1 d1 from rfl)) _ _ _ _
 have h2 := two_inB (signK_in sg) ha hb h5 hlo hy.lt
 exact ⟨h2.but hbf (.inr rfl), (hp.below h6).but hbf hkd, set4_but (hw.trans (But.of_b h6)) (.inr hwd) _ _ _ _, set4_blk (hy.below h6) _ _ _ _, (hr.below h6).but hbf (fun e => hdd e.symm)⟩
end
set_option maxHeartbeats 8000000 in
set_option maxRecDepth 100000 in
theorem kexpr_step (n lvl : Nat) (hlv : lvl < 3) (h1 : ∀ m, m < n → KEx m (lvl + 1)) : KEx n lvl := by
 intro k f L w a out ho h ha hf
 cases n with
 | zero => cases ho
 | succ n =>
 rw [exG_ex hlv] at ho
 have hlt := h.lt
 have hll := h.len.1
 have hcast : ((lvl + 1 : Nat) : Int) = (lvl : Int) + 1 := by omega
 have h1' : ∀ m, m < n + 1 → ∀ (f : Nat) (w : World) (a : Nat) (out : PR Ex), exG m (.ex (lvl + 1)) (L.drop a) = some out → RkAt k L w f → a ≤ L.length → f ≤ a →
     Calls Tryz.prog 83 #[.pointer (some ⟨k, 0, none⟩), .int .i64 (a : Int), .int .i64 ((lvl : Int) + 1)] w (KqOut k L w (rdE w.heap.size k) out) := by
  intro m hm f w a out e1 e2 e3 e4
  rw [← hcast]; exact h1 m hm k f L w a out e1 e2 e3 e4
 have H1 := hid h1'
 clear h1 h1' hcast
 have hl3 : ((lvl : Int) == 3) = false := by simp; omega
 have hln : -9223372036854775808 ≤ (lvl : Int) + 1 ∧ (lvl : Int) + 1 ≤ 9223372036854775807 := by omega
 have hbl : Below w.heap.size w (w.alloc (.cells #[.int .i64 0, .int .i64 0, .string ⟨#[]⟩, .slice none 0 0] 80)) := (Below.refl _ _).alloc (Nat.le_refl _) _
 have HBL := hid (But.of_b (T := Is k) hbl)
 have HBX := hid (Blk.made w [.int .i64 0, .int .i64 0, .string ⟨#[]⟩, .slice none 0 0] 80 (base := 0) (Nat.zero_le _))
 have HP0 := hid (h.below hbl)
 have HE := hid ho
 obtain ⟨d, hd⟩ : ∃ d, d = w.heap.size := ⟨_, rfl⟩
 have hdk : ¬ d = k := by omega
 have hdw : w.heap.size ≤ d := by omega
 have hkd : k < d := by omega
 have hWd : d < (w.alloc (.cells #[.int .i64 0, .int .i64 0, .string ⟨#[]⟩, .slice none 0 0] 80)).heap.size := by simp [hd]
 have hkW0 : k < (w.alloc (.cells #[.int .i64 0, .int .i64 0, .string ⟨#[]⟩, .slice none 0 0] 80)).heap.size := by simp; omega
 rw [← hd] at HBX
 clear h hbl ho
 go_enter Tryz.func83, Tryz.ntmps83
 go_upto_region 1 with (fail)
 rw [← hd]
 clear hd
 generalize (w.alloc (.cells #[.int .i64 0, .int .i64 0, .string ⟨#[]⟩, .slice none 0 0] 80)) = W0 at *
 rcases PO.bind_some HE.out with ⟨r, e1, e2⟩ | ⟨x1, r, e1, e2⟩
 ·have HC := hid (H1.out n (by omega) f W0 a _ e1 HP0.out ha hf)
  have HO := hid e2
  clear e1 e2 HE H1
  go_upto_region 4 with (go_at_call 83; refine HC.out.mono ?_; rintro e w1 ⟨x, z, g, rfl, ⟨t1, hx⟩, hfr, hp1, hb1⟩; obtain ⟨A, c, rfl⟩ := hx.form)
  have bl1 : Below w1.heap.size w1 (w1.alloc (.cells #[.int .i64 t1.kind, .int .i64 t1.num, .string t1.name, .slice A t1.args.length c] 80)) := (Below.refl _ _).alloc (Nat.le_refl _) _
  have HY1 := hid (Blk.made w1 [.int .i64 t1.kind, .int .i64 t1.num, .string t1.name, .slice A t1.args.length c] 80 (base := 0) (Nat.zero_le _))
  have HR1 := hid ((HBX.out.but hb1 (fun e => hdk e)).below bl1)
  have HX1 := hid (hx.below bl1)
  have HP1 := hid (hp1.below bl1)
  have HB1 := hid (HBL.out.trans (hb1.trans (But.of_b bl1)))
  have HFR := hid hfr
  have hz1 := hb1.size
  have hd1d : ¬ w1.heap.size = d := by omega
  clear hx hp1 hb1 bl1 hfr HBX HC HBL HP0
  generalize (w1.alloc (.cells #[.int .i64 t1.kind, .int .i64 t1.num, .string t1.name, .slice A t1.args.length c] 80)) = W1 at *
  generalize w1.heap.size = d1 at *
  have y0 := HY1.out.cell 0 _ rfl; have y1 := HY1.out.cell 1 _ rfl; have y2 := HY1.out.cell 2 _ rfl; have y3 := HY1.out.cell 3 _ rfl
  have r0 := HR1.out.cell 0 _ rfl; have r1 := HR1.out.cell 1 _ rfl; have r2 := HR1.out.cell 2 _ rfl; have r3 := HR1.out.cell 3 _ rfl
  have f0 := HR1.out.fr 0; have f1 := HR1.out.fr 1; have f2 := HR1.out.fr 2; have f3 := HR1.out.fr 3
  go_loop [1] (fun u => u = .int .i64 z) (fun _ => 0)
  case atStart => rfl
  case round =>
  obtain rfl := hrel
  go_wp2
  exact ret_kno Tryz.results83 HR1.out HX1.out hkW0 HP1.out HB1.out hlt hdw hWd HO.out HFR.out rfl rfl rfl rfl
 ·have HC := hid (H1.out n (by omega) f W0 a _ e1 HP0.out ha hf)
  have HE2 := hid e2
  clear e1 e2 HE
  go_upto_region 4 with (go_at_call 83; refine HC.out.mono ?_; rintro e w1 ⟨x, b1, g1, rfl, hx, hbr, hbl1, hgb1, hp1, hb1⟩; obtain ⟨A, c, rfl⟩ := hx.form)
  have bl1 : Below w1.heap.size w1 (w1.alloc (.cells #[.int .i64 x1.kind, .int .i64 x1.num, .string x1.name, .slice A x1.args.length c] 80)) := (Below.refl _ _).alloc (Nat.le_refl _) _
  obtain ⟨d1, hd1⟩ : ∃ d1, d1 = w1.heap.size := ⟨_, rfl⟩
  have hz1 := hb1.size
  have HY1 := hid (Blk.made w1 [.int .i64 x1.kind, .int .i64 x1.num, .string x1.name, .slice A x1.args.length c] 80 (base := 0) (Nat.zero_le _))
  have HR1 := hid ((HBX.out.but hb1 (fun e => hdk e)).below bl1)
  have HX1 := hid ((hx.to (lo' := W0.heap.size) (y' := d1) (Nat.le_refl _) (.inr (.inl (by omega)))).below bl1)
  have HP1 := hid (hp1.below bl1)
  have HB1 := hid (HBL.out.trans (hb1.trans (But.of_b bl1)))
  have HE3 := hid (show exG n (.row lvl x1) (L.drop b1) = some out by rw [hbr]; exact HE2.out)
  have hW0w : w.heap.size ≤ W0.heap.size := by omega
  have hdd : ¬ d1 = k := by omega
  have hd1d : ¬ d1 = d := by omega
  have hW0d1 : W0.heap.size ≤ d1 := by omega
  have hkd1 : k < d1 := by omega
  have hwd1 : w.heap.size ≤ d1 := by omega
  rw [← hd1] at HY1 ⊢
  clear hx hp1 hb1 bl1 hbr HBX HC HBL HP0 HE2 hd1 hz1
  generalize (w1.alloc (.cells #[.int .i64 x1.kind, .int .i64 x1.num, .string x1.name, .slice A x1.args.length c] 80)) = W1 at *
  go_loopw [1] (fun u wr => ∃ (x2 : Ex) (b g m : Nat) (A2 : Option Addr) (c2 : Nat), u = .int .i64 (b : Int) ∧ m ≤ n ∧ b ≤ L.length ∧ g ≤ b ∧ Hid (exG m (.row lvl x2) (L.drop b) = some out) ∧ Hid (RkAt k L wr g) ∧ Hid (But (Is k) w wr) ∧ Hid (rdE W0.heap.size d1 wr x2 (exV x2.kind x2.num x2.name (.slice A2 x2.args.length c2))) ∧ Hid (Blk 0 wr d1 [.int .i64 x2.kind, .int .i64 x2.num, .string x2.name, .slice A2 x2.args.length c2]) ∧ Hid (Blk 0 wr d [.int .i64 0, .int .i64 0, .string ⟨#[]⟩, .slice none 0 0])) (fun u _ => L.length - (intOf u).toNat)
  case atStart => exact ⟨x1, b1, g1, n, A, c, rfl, Nat.le_refl _, hbl1, hgb1, HE3, HP1, HB1, HX1, HY1, HR1⟩
  case round =>
   clear HE3 HP1 HB1 HX1 HY1 HR1 hbl1 hgb1
   obtain ⟨x2, b, g, m, A2, c2, rfl, hmn, hbL, hgb, HE, HP, HB, HX, HY, HR⟩ := hrel
   obtain ⟨m, rfl⟩ : ∃ j, m = j + 1 := by cases m with
    | zero => cases HE.out
    | succ m => exact ⟨m, rfl⟩
   have HSG := hid (krsign_any HP.out b hbL hgb lvl (by omega))
   by_cases hs : anyG (lvlS lvl) (L.drop b) = ⟨#[]⟩
   ·have HO := hid (show out = .ok x2 (L.drop b) by have h := HE.out; rw [exG_stop hs] at h; exact (Option.some.inj h).symm)
    rw [hs] at HSG
    clear hs HE H1
    go_upto_region 7 with (go_at_call 107; refine HSG.out.mono ?_; rintro e w3 ⟨b9, rfl, _, hp3, hb3⟩)
    have HR3 := hid (HR.out.but hb3 (fun e => hdk e))
    have HY3 := hid (HY.out.but hb3 (fun e => hdd e))
    have HX3 := hid (HX.out.but hb3 (.inl hkW0))
    have HB3 := hid (HB.out.trans hb3)
    have HP3 := hid hp3
    clear hp3 hb3 HR HY HX HB HP HSG
    have y0 := HY3.out.cell 0 _ rfl; have y1 := HY3.out.cell 1 _ rfl; have y2 := HY3.out.cell 2 _ rfl; have y3 := HY3.out.cell 3 _ rfl
    have r0 := HR3.out.cell 0 _ rfl; have r1 := HR3.out.cell 1 _ rfl; have r2 := HR3.out.cell 2 _ rfl; have r3 := HR3.out.cell 3 _ rfl
    have f0 := HR3.out.fr 0; have f1 := HR3.out.fr 1; have f2 := HR3.out.fr 2; have f3 := HR3.out.fr 3
    go_wp2
    exact ret_kok Tryz.results83 HR3.out HX3.out (fun h => by omega) hkW0 HP3.out HB3.out hlt hdw hWd HO.out rfl hbL (Nat.le_refl _) rfl rfl rfl rfl
   ·obtain ⟨t, r2, hdr⟩ := anyG_ne hs
    obtain ⟨_, _, _, _, hbl, _, _, hdr1, _⟩ := HP.out.tok hdr
    have he3 := HE.out
    rw [exG_row hs, hdr, List.tail_cons, ← hdr] at he3
    rw [← hdr1] at he3
    have hS1 := H1.out m (by omega)
    have hs0 := ne_nil hs
    have hsev := lvl_sev (any_in hs)
    have hsn : ¬ anyG (lvlS lvl) (L.drop b) = ⟨#[]⟩ := hs
    obtain ⟨sg, hsg⟩ : ∃ sg, sg = anyG (lvlS lvl) (L.drop b) := ⟨_, rfl⟩
    rw [← hsg] at HSG he3 hs0 hsev hsn
    have HE3 := hid he3
    have HS1 := hid hS1
    have HKS := hid (fun W => ksign_any sg hsev W)
    have HSN := hid hsn
    have hbb : b + 1 ≤ L.length := by omega
    clear he3 hS1 HE hs hsg hdr hdr1 hsev hsn H1
    go_upto_region 8 with (go_at_call 107; refine HSG.out.mono ?_; rintro e w3 ⟨b9, rfl, hb9, hp3, hb3⟩; obtain rfl := hb9 HSN.out)
    have HR3 := hid (HR.out.but hb3 (fun e => hdk e))
    have HY3 := hid (HY.out.but hb3 (fun e => hdd e))
    have HX3 := hid (HX.out.but hb3 (.inl hkW0))
    have HB3 := hid (HB.out.trans hb3)
    have HP3 := hid hp3
    clear hp3 hb3 hb9 HR HY HX HB HP HSG HSN hs0
    rcases PO.bind_some HE3.out with ⟨q, e1, e2⟩ | ⟨x4, q, e1, e2⟩
    ·have HC := hid (HS1.out b w3 (b + 1) _ e1 HP3.out hbb (by omega))
     have HO := hid e2
     clear e1 e2 HE3 HS1
     go_upto_region 9 with (go_at_call 83; refine HC.out.mono ?_; rintro e w4 ⟨x, z, g4, rfl, ⟨t4, hx4⟩, hfr, hp4, hb4⟩; obtain ⟨A4, c4, rfl⟩ := hx4.form)
     have bl4 : Below w4.heap.size w4 (w4.alloc (.cells #[.int .i64 t4.kind, .int .i64 t4.num, .string t4.name, .slice A4 t4.args.length c4] 80)) := (Below.refl _ _).alloc (Nat.le_refl _) _
     have HR4 := hid ((HR3.out.but hb4 (fun e => hdk e)).below bl4)
     have HY4 := hid ((HY3.out.but hb4 (fun e => hdd e)).below bl4)
     have HX4 := hid ((HX3.out.but hb4 (.inl hkW0)).below bl4)
     have HB4 := hid (HB3.out.trans (hb4.trans (But.of_b bl4)))
     have HP4 := hid (hp4.below bl4)
     have HFR := hid hfr
     clear hx4 hp4 hb4 bl4 hfr HR3 HY3 HX3 HB3 HP3 HC
     generalize (w4.alloc (.cells #[.int .i64 t4.kind, .int .i64 t4.num, .string t4.name, .slice A4 t4.args.length c4] 80)) = W4 at *
     have y0 := HY4.out.cell 0 _ rfl; have y1 := HY4.out.cell 1 _ rfl; have y2 := HY4.out.cell 2 _ rfl; have y3 := HY4.out.cell 3 _ rfl
     have r0 := HR4.out.cell 0 _ rfl; have r1 := HR4.out.cell 1 _ rfl; have r2 := HR4.out.cell 2 _ rfl; have r3 := HR4.out.cell 3 _ rfl
     have f0 := HR4.out.fr 0; have f1 := HR4.out.fr 1; have f2 := HR4.out.fr 2; have f3 := HR4.out.fr 3
     go_wp2
     exact ret_kno Tryz.results83 HR4.out HX4.out hkW0 HP4.out HB4.out hlt hdw hWd HO.out HFR.out rfl rfl rfl rfl
    ·have HC := hid (HS1.out b w3 (b + 1) _ e1 HP3.out hbb (by omega))
     have HE4 := hid e2
     have hlen := exG_len _ _ _ _ _ e1
     simp only [moLen, List.length_drop] at hlen
     clear e1 e2 HE3 HS1
     go_upto_region 11 with (go_at_call 83; refine HC.out.mono ?_; rintro e w4 ⟨x, b4, g4, rfl, hx4, hbr, hbl4, hgb4, hp4, hb4⟩; obtain ⟨A4, c4, rfl⟩ := hx4.form)
     have bl4 : Below w4.heap.size w4 (w4.alloc (.cells #[.int .i64 x4.kind, .int .i64 x4.num, .string x4.name, .slice A4 x4.args.length c4] 80)) := (Below.refl _ _).alloc (Nat.le_refl _) _
     have hz3 := HY3.out.lt
     have hz4 := hb4.size
     have hz9 := HB3.out.size
     have HR4 := hid ((HR3.out.but hb4 (fun e => hdk e)).below bl4)
     have HY4 := hid ((HY3.out.but hb4 (fun e => hdd e)).below bl4)
     have HX4 := hid ((HX3.out.but hb4 (.inl hkW0)).below bl4)
     have HXB := hid (((rdE.to hx4 (lo' := W0.heap.size) (y' := d1) (by omega) (.inl hz3))).below bl4)
     have HB4 := hid (HB3.out.trans (hb4.trans (But.of_b bl4)))
     have HP4 := hid (hp4.below bl4)
     have HZ4 := hid (Blk.made w4 [.int .i64 x4.kind, .int .i64 x4.num, .string x4.name, .slice A4 x4.args.length c4] 80 (base := 0) (Nat.zero_le _))
     have HBR := hid hbr
     obtain ⟨d2, hd2⟩ : ∃ d2, d2 = w4.heap.size := ⟨_, rfl⟩
     have hd2d : ¬ d2 = d1 := by omega
     have hd24 : d2 < (w4.alloc (.cells #[.int .i64 x4.kind, .int .i64 x4.num, .string x4.name, .slice A4 x4.args.length c4] 80)).heap.size := by simp [hd2]
     have hd14 : d1 < (w4.alloc (.cells #[.int .i64 x4.kind, .int .i64 x4.num, .string x4.name, .slice A4 x4.args.length c4] 80)).heap.size := by simp; omega
     have hb4b : b < b4 := by have h2 := congrArg List.length hbr; rw [List.length_drop] at h2; omega
     rw [← hd2] at HZ4 ⊢
     clear hx4 hp4 hb4 bl4 hbr HR3 HY3 HX3 HB3 HP3 HC hd2 hz3 hz4 hz9
     generalize (w4.alloc (.cells #[.int .i64 x4.kind, .int .i64 x4.num, .string x4.name, .slice A4 x4.args.length c4] 80)) = W4 at *
     have y0 := HY4.out.cell 0 _ rfl; have y1 := HY4.out.cell 1 _ rfl; have y2 := HY4.out.cell 2 _ rfl; have y3 := HY4.out.cell 3 _ rfl
     have f0 := HY4.out.fr 0; have f1 := HY4.out.fr 1; have f2 := HY4.out.fr 2; have f3 := HY4.out.fr 3
     have z0 := HZ4.out.cell 0 _ rfl; have z1 := HZ4.out.cell 1 _ rfl; have z2 := HZ4.out.cell 2 _ rfl; have z3 := HZ4.out.cell 3 _ rfl
     go_region_with (go_at_call 108; refine (HKS.out _).mono ?_; rintro e w5 ⟨rfl, hb5⟩; have hbw : Below W4.heap.size W4 w5 := (by first | exact (Below.refl _ _).drew.trans hb5 | exact (((Below.refl _ _).alloc (Nat.le_refl _) _).drew.trans (hb5.mono (by simp)))); have hY5 := HY4.out.below hbw; have hZ5 := HZ4.out.below hbw; have hl5 := hY5.lt; have hl6 := hZ5.lt; have p0 := hY5.cell 0 _ rfl; have p1 := hY5.cell 1 _ rfl; have p2 := hY5.cell 2 _ rfl; have p3 := hY5.cell 3 _ rfl; have g0 := hY5.fr 0; have g1 := hY5.fr 1; have g2 := hY5.fr 2; have g3 := hY5.fr 3; have q0 := hZ5.cell 0 _ rfl; have q1 := hZ5.cell 1 _ rfl; have q2 := hZ5.cell 2 _ rfl; have q3 := hZ5.cell 3 _ rfl)
     all_goals (first
      | (change Exit.then _ _ Exit.normal _ ((set4 w5 d1 (.int .i64 (signK sg)) (.int .i64 0) (.string ⟨#[]⟩) (.slice (some ⟨w5.heap.size, 0, none⟩) 2 2)).alloc (.cells #[.int .i64 x2.kind, .int .i64 x2.num, .string x2.name, .slice A2 x2.args.length c2, .int .i64 x4.kind, .int .i64 x4.num, .string x4.name, .slice A4 x4.args.length c4] 80)); have HKR := hid (KReg.of_a (sg := sg) HX4.out HXB.out HP4.out HB4.out HY4.out HR4.out hkd1 hwd1 hd1d (by omega) hbw); clear hbw hb5 hY5 hZ5 hl5 hl6 p0 p1 p2 p3 g0 g1 g2 g3 q0 q1 q2 q3; generalize ((set4 w5 d1 (.int .i64 (signK sg)) (.int .i64 0) (.string ⟨#[]⟩) (.slice (some ⟨w5.heap.size, 0, none⟩) 2 2)).alloc (.cells #[.int .i64 x2.kind, .int .i64 x2.num, .string x2.name, .slice A2 x2.args.length c2, .int .i64 x4.kind, .int .i64 x4.num, .string x4.name, .slice A4 x4.args.length c4] 80)) = WF at *; generalize w5.heap.size = zz at *)
      | (change Exit.then _ _ Exit.normal _ (set4 w5 d1 (.int .i64 (signK sg)) (.int .i64 0) (.string ⟨#[]⟩) (.slice (some ⟨W4.heap.size, 0, none⟩) 2 2)); have HKR := hid (KReg.of_b (sg := sg) HX4.out HXB.out HP4.out HB4.out HY4.out HR4.out hkd1 hwd1 hd1d (by omega) ((Below.refl _ _).drew.trans hb5)); clear hbw hb5 hY5 hZ5 hl5 hl6 p0 p1 p2 p3 g0 g1 g2 g3 q0 q1 q2 q3; generalize (set4 w5 d1 (.int .i64 (signK sg)) (.int .i64 0) (.string ⟨#[]⟩) (.slice (some ⟨W4.heap.size, 0, none⟩) 2 2)) = WF at *; generalize W4.heap.size = zz at *))
     all_goals
      clear HX4 HXB HP4 HB4 HY4 HR4 HZ4 HKS
      by_cases hl0 : lvl = 0
      ·have hlb : ((lvl : Int) == 0) = true := by rw [hl0]; rfl
       have HO := hid (show out = .ok (twoX sg x2 x4) q by have h := HE4.out; simp only [hl0, if_true] at h; exact (Option.some.inj h).symm)
       have a0 := HKR.out.y.cell 0 _ rfl; have a1 := HKR.out.y.cell 1 _ rfl; have a2 := HKR.out.y.cell 2 _ rfl; have a3 := HKR.out.y.cell 3 _ rfl
       have r0 := HKR.out.r.cell 0 _ rfl; have r1 := HKR.out.r.cell 1 _ rfl; have r2 := HKR.out.r.cell 2 _ rfl; have r3 := HKR.out.r.cell 3 _ rfl
       have s0 := HKR.out.r.fr 0; have s1 := HKR.out.r.fr 1; have s2 := HKR.out.r.fr 2; have s3 := HKR.out.r.fr 3
       clear HE4 hl0
       go_wp2
       exact ret_kok Tryz.results83 HKR.out.r HKR.out.x (fun h => by omega) hkW0 HKR.out.p HKR.out.b hlt hdw hWd HO.out HBR.out hbl4 hgb4 rfl rfl rfl rfl
      ·have hlb : ((lvl : Int) == 0) = false := by simpa using hl0
       have HE5 := hid (show exG m (.row lvl (twoX sg x2 x4)) (L.drop b4) = some out by have h := HE4.out; rw [if_neg hl0] at h; rw [HBR.out]; exact h)
       clear HE4 hl0
       go_wp2
       go_roundw
       case rel => exact ⟨twoX sg x2 x4, b4, g4, m, _, _, rfl, by omega, hbl4, hgb4, HE5, hid HKR.out.p, hid HKR.out.b, hid HKR.out.x, hid HKR.out.y, hid HKR.out.r⟩
       case measure => simp [intOf]; omega
end Go.Proofs.YtnpgpcnkdocknaaGreatDoor
namespace Go.Proofs.YtnpgpcnkdocknaaGreatDoor
open Go.Shelf Go.RowKit
set_option linter.unusedVariables false
def laysPI_ren : Go.Shelf.Ren := ⟨fun | 174 => 50 | 247 => 80 | 245 => 81 | 287 => 101 | 279 => 102 | 280 => 103 | 281 => 104 | 282 => 105 | 321 => 117 | 322 => 118 | 316 => 119 | 171 => 33 | 205 => 120 | 243 => 58 | 246 => 62 | 283 => 86 | 284 => 87 | 285 => 88 | 286 => 89 | 129 => 110 | 317 => 109 | 318 => 111 | 319 => 112 | 320 => 113 | 337 => 123 | 338 => 124 | n => n, fun | 9 => 9 | 3 => 3 | 2 => 2 | 75 => 92 | 85 => 111 | 4 => 4 | 167 => 146 | 5 => 5 | 53 => 138 | 175 => 147 | 46 => 149 | 168 => 150 | 37 => 66 | 0 => 0 | 210 => 165 | 21 => 21 | 127 => 107 | 145 => 173 | 143 => 171 | 171 => 137 | 173 => 141 | 212 => 158 | 51 => 159 | 20 => 20 | 213 => 160 | 232 => 174 | 233 => 175 | 80 => 72 | n => n, fun | 15 => 1 | 16 => 2 | 17 => 0 | 18 => 5 | 19 => 6 | n => n⟩
theorem laysPI : Go.Proofs.LaysC.n174 Tryz.prog laysPI_ren where
 mixed := by kernel_rfl
 f129 := Tryz.func110.trans (congrArg some (by kernel_rfl))
 f171 := Tryz.func33.trans (congrArg some (by kernel_rfl))
 f174 := Tryz.func50.trans (congrArg some (by kernel_rfl))
 f205 := Tryz.func120.trans (congrArg some (by kernel_rfl))
 f243 := Tryz.func58.trans (congrArg some (by kernel_rfl))
 f245 := Tryz.func81.trans (congrArg some (by kernel_rfl))
 f246 := Tryz.func62.trans (congrArg some (by kernel_rfl))
 f247 := Tryz.func80.trans (congrArg some (by kernel_rfl))
 f279 := Tryz.func102.trans (congrArg some (by kernel_rfl))
 f280 := Tryz.func103.trans (congrArg some (by kernel_rfl))
 f281 := Tryz.func104.trans (congrArg some (by kernel_rfl))
 f282 := Tryz.func105.trans (congrArg some (by kernel_rfl))
 f283 := Tryz.func86.trans (congrArg some (by kernel_rfl))
 f284 := Tryz.func87.trans (congrArg some (by kernel_rfl))
 f285 := Tryz.func88.trans (congrArg some (by kernel_rfl))
 f286 := Tryz.func89.trans (congrArg some (by kernel_rfl))
 f287 := Tryz.func101.trans (congrArg some (by kernel_rfl))
 f316 := Tryz.func119.trans (congrArg some (by kernel_rfl))
 f317 := Tryz.func109.trans (congrArg some (by kernel_rfl))
 f318 := Tryz.func111.trans (congrArg some (by kernel_rfl))
 f319 := Tryz.func112.trans (congrArg some (by kernel_rfl))
 f320 := Tryz.func113.trans (congrArg some (by kernel_rfl))
 f321 := Tryz.func117.trans (congrArg some (by kernel_rfl))
 f322 := Tryz.func118.trans (congrArg some (by kernel_rfl))
 f337 := Tryz.func123.trans (congrArg some (by kernel_rfl))
 f338 := Tryz.func124.trans (congrArg some (by kernel_rfl))
 t0 := Tryz.underlying0
 a0 := Tryz.isAgg0
 z0 := Tryz.sizeOf0
 v0 := Tryz.zeroValue0
 t2 := Tryz.underlying2
 a2 := Tryz.isAgg2
 z2 := Tryz.sizeOf2
 v2 := Tryz.zeroValue2
 t3 := Tryz.underlying3
 a3 := Tryz.isAgg3
 z3 := Tryz.sizeOf3
 v3 := Tryz.zeroValue3
 t4 := Tryz.underlying4
 a4 := Tryz.isAgg4
 z4 := Tryz.sizeOf4
 v4 := Tryz.zeroValue4
 t5 := Tryz.underlying5
 a5 := Tryz.isAgg5
 z5 := Tryz.sizeOf5
 v5 := Tryz.zeroValue5
 t9 := Tryz.underlying9
 a9 := Tryz.isAgg9
 z9 := Tryz.sizeOf9
 v9 := Tryz.zeroValue9
 t20 := Tryz.underlying20
 a20 := Tryz.isAgg20
 z20 := Tryz.sizeOf20
 v20 := Tryz.zeroValue20
 t21 := Tryz.underlying21
 a21 := Tryz.isAgg21
 z21 := Tryz.sizeOf21
 v21 := Tryz.zeroValue21
 t37 := Tryz.underlying66
 a37 := Tryz.isAgg66
 z37 := Tryz.sizeOf66
 v37 := Tryz.zeroValue66
 t46 := Tryz.underlying149
 a46 := Tryz.isAgg149
 z46 := Tryz.sizeOf149
 v46 := Tryz.zeroValue149
 t51 := Tryz.underlying159
 a51 := Tryz.isAgg159
 z51 := Tryz.sizeOf159
 v51 := Tryz.zeroValue159
 t53 := Tryz.underlying138
 a53 := Tryz.isAgg138
 z53 := Tryz.sizeOf138
 v53 := Tryz.zeroValue138
 t75 := Tryz.underlying92
 a75 := Tryz.isAgg92
 z75 := Tryz.sizeOf92
 v75 := Tryz.zeroValue92
 t85 := Tryz.underlying111
 a85 := Tryz.isAgg111
 z85 := Tryz.sizeOf111
 v85 := Tryz.zeroValue111
 t127 := Tryz.underlying107
 a127 := Tryz.isAgg107
 z127 := Tryz.sizeOf107
 v127 := Tryz.zeroValue107
 t143 := Tryz.underlying171
 a143 := Tryz.isAgg171
 z143 := Tryz.sizeOf171
 v143 := Tryz.zeroValue171
 t145 := Tryz.underlying173
 a145 := Tryz.isAgg173
 z145 := Tryz.sizeOf173
 v145 := Tryz.zeroValue173
 t167 := Tryz.underlying146
 a167 := Tryz.isAgg146
 z167 := Tryz.sizeOf146
 v167 := Tryz.zeroValue146
 t168 := Tryz.underlying150
 a168 := Tryz.isAgg150
 z168 := Tryz.sizeOf150
 v168 := Tryz.zeroValue150
 t171 := Tryz.underlying137
 a171 := Tryz.isAgg137
 z171 := Tryz.sizeOf137
 v171 := Tryz.zeroValue137
 t173 := Tryz.underlying141
 a173 := Tryz.isAgg141
 z173 := Tryz.sizeOf141
 v173 := Tryz.zeroValue141
 t175 := Tryz.underlying147
 a175 := Tryz.isAgg147
 z175 := Tryz.sizeOf147
 v175 := Tryz.zeroValue147
 t210 := Tryz.underlying165
 a210 := Tryz.isAgg165
 z210 := Tryz.sizeOf165
 v210 := Tryz.zeroValue165
 t212 := Tryz.underlying158
 a212 := Tryz.isAgg158
 z212 := Tryz.sizeOf158
 v212 := Tryz.zeroValue158
 t213 := Tryz.underlying160
 a213 := Tryz.isAgg160
 z213 := Tryz.sizeOf160
 t232 := Tryz.underlying174
 a232 := Tryz.isAgg174
 z232 := Tryz.sizeOf174
 v232 := Tryz.zeroValue174
 t233 := Tryz.underlying175
 a233 := Tryz.isAgg175
 z233 := Tryz.sizeOf175
 v233 := Tryz.zeroValue175
 g15 := by kernel_rfl
 g16 := by kernel_rfl
 g17 := by kernel_rfl
 g18 := by kernel_rfl
 g19 := by kernel_rfl
 t80 := Tryz.underlying72
 a80 := Tryz.isAgg72
 z80 := Tryz.sizeOf72
 v80 := Tryz.zeroValue72
 i0 := by kernel_rfl
 i2 := by kernel_rfl
 i3 := by kernel_rfl
 i4 := by kernel_rfl
 i5 := by kernel_rfl
 i9 := by kernel_rfl
 i20 := by kernel_rfl
 i21 := by kernel_rfl
 i37 := by kernel_rfl
 i46 := by kernel_rfl
 i51 := by kernel_rfl
 i53 := by kernel_rfl
 i75 := by kernel_rfl
 i80 := by kernel_rfl
 i85 := by kernel_rfl
 i127 := by kernel_rfl
 i143 := by kernel_rfl
 i145 := by kernel_rfl
 i167 := by kernel_rfl
 i168 := by kernel_rfl
 i171 := by kernel_rfl
 i173 := by kernel_rfl
 i175 := by kernel_rfl
 i210 := by kernel_rfl
 i212 := by kernel_rfl
 i232 := by kernel_rfl
 i233 := by kernel_rfl
 m15 := by kernel_rfl
 m16 := by kernel_rfl
 m17 := by kernel_rfl
 m18 := by kernel_rfl
 m19 := by kernel_rfl
 c0 := by kernel_rfl
 c2 := by kernel_rfl
 c3 := by kernel_rfl
 c4 := by kernel_rfl
 c5 := by kernel_rfl
 c9 := by kernel_rfl
 c20 := by kernel_rfl
 c21 := by kernel_rfl
 c37 := by kernel_rfl
 c46 := by kernel_rfl
 c51 := by kernel_rfl
 c53 := by kernel_rfl
 c75 := by kernel_rfl
 c80 := by kernel_rfl
 c85 := by kernel_rfl
 c127 := by kernel_rfl
 c143 := by kernel_rfl
 c145 := by kernel_rfl
 c167 := by kernel_rfl
 c168 := by kernel_rfl
 c171 := by kernel_rfl
 c173 := by kernel_rfl
 c175 := by kernel_rfl
 c210 := by kernel_rfl
 c212 := by kernel_rfl
 c213 := by kernel_rfl
 c232 := by kernel_rfl
 c233 := by kernel_rfl
def laysFI_ren : Go.Shelf.Ren := ⟨fun | 173 => 37 | 246 => 62 | 283 => 86 | 284 => 87 | 285 => 88 | 286 => 89 | 129 => 110 | 317 => 109 | 318 => 111 | 319 => 112 | 320 => 113 | 337 => 123 | 338 => 124 | n => n, fun | 2 => 2 | 3 => 3 | 9 => 9 | 4 => 4 | 171 => 137 | 0 => 0 | 53 => 138 | 37 => 66 | 5 => 5 | 173 => 141 | 212 => 158 | 51 => 159 | 20 => 20 | 213 => 160 | 46 => 149 | 232 => 174 | 233 => 175 | n => n, fun | 17 => 0 | 18 => 5 | 19 => 6 | n => n⟩
theorem laysFI : Go.Proofs.LaysM.n173 Tryz.prog laysFI_ren where
 mixed := by kernel_rfl
 f129 := Tryz.func110.trans (congrArg some (by kernel_rfl))
 f173 := Tryz.func37.trans (congrArg some (by kernel_rfl))
 f246 := Tryz.func62.trans (congrArg some (by kernel_rfl))
 f283 := Tryz.func86.trans (congrArg some (by kernel_rfl))
 f284 := Tryz.func87.trans (congrArg some (by kernel_rfl))
 f285 := Tryz.func88.trans (congrArg some (by kernel_rfl))
 f286 := Tryz.func89.trans (congrArg some (by kernel_rfl))
 f317 := Tryz.func109.trans (congrArg some (by kernel_rfl))
 f318 := Tryz.func111.trans (congrArg some (by kernel_rfl))
 f319 := Tryz.func112.trans (congrArg some (by kernel_rfl))
 f320 := Tryz.func113.trans (congrArg some (by kernel_rfl))
 f337 := Tryz.func123.trans (congrArg some (by kernel_rfl))
 f338 := Tryz.func124.trans (congrArg some (by kernel_rfl))
 t0 := Tryz.underlying0
 a0 := Tryz.isAgg0
 z0 := Tryz.sizeOf0
 v0 := Tryz.zeroValue0
 t2 := Tryz.underlying2
 a2 := Tryz.isAgg2
 z2 := Tryz.sizeOf2
 v2 := Tryz.zeroValue2
 t3 := Tryz.underlying3
 a3 := Tryz.isAgg3
 z3 := Tryz.sizeOf3
 v3 := Tryz.zeroValue3
 t4 := Tryz.underlying4
 a4 := Tryz.isAgg4
 z4 := Tryz.sizeOf4
 v4 := Tryz.zeroValue4
 t5 := Tryz.underlying5
 a5 := Tryz.isAgg5
 z5 := Tryz.sizeOf5
 v5 := Tryz.zeroValue5
 t9 := Tryz.underlying9
 a9 := Tryz.isAgg9
 z9 := Tryz.sizeOf9
 v9 := Tryz.zeroValue9
 t20 := Tryz.underlying20
 a20 := Tryz.isAgg20
 z20 := Tryz.sizeOf20
 v20 := Tryz.zeroValue20
 t37 := Tryz.underlying66
 a37 := Tryz.isAgg66
 z37 := Tryz.sizeOf66
 v37 := Tryz.zeroValue66
 t46 := Tryz.underlying149
 a46 := Tryz.isAgg149
 z46 := Tryz.sizeOf149
 v46 := Tryz.zeroValue149
 t51 := Tryz.underlying159
 a51 := Tryz.isAgg159
 z51 := Tryz.sizeOf159
 v51 := Tryz.zeroValue159
 t53 := Tryz.underlying138
 a53 := Tryz.isAgg138
 z53 := Tryz.sizeOf138
 v53 := Tryz.zeroValue138
 t171 := Tryz.underlying137
 a171 := Tryz.isAgg137
 z171 := Tryz.sizeOf137
 v171 := Tryz.zeroValue137
 t173 := Tryz.underlying141
 a173 := Tryz.isAgg141
 z173 := Tryz.sizeOf141
 v173 := Tryz.zeroValue141
 t212 := Tryz.underlying158
 a212 := Tryz.isAgg158
 z212 := Tryz.sizeOf158
 v212 := Tryz.zeroValue158
 t213 := Tryz.underlying160
 a213 := Tryz.isAgg160
 z213 := Tryz.sizeOf160
 t232 := Tryz.underlying174
 a232 := Tryz.isAgg174
 z232 := Tryz.sizeOf174
 v232 := Tryz.zeroValue174
 t233 := Tryz.underlying175
 a233 := Tryz.isAgg175
 z233 := Tryz.sizeOf175
 v233 := Tryz.zeroValue175
 g17 := by kernel_rfl
 g18 := by kernel_rfl
 g19 := by kernel_rfl
 i0 := by kernel_rfl
 i2 := by kernel_rfl
 i3 := by kernel_rfl
 i4 := by kernel_rfl
 i5 := by kernel_rfl
 i9 := by kernel_rfl
 i20 := by kernel_rfl
 i37 := by kernel_rfl
 i46 := by kernel_rfl
 i51 := by kernel_rfl
 i53 := by kernel_rfl
 i171 := by kernel_rfl
 i173 := by kernel_rfl
 i212 := by kernel_rfl
 i232 := by kernel_rfl
 i233 := by kernel_rfl
 m17 := by kernel_rfl
 m18 := by kernel_rfl
 m19 := by kernel_rfl
structure Nums (w : World) : Prop where
 esy : ∃ ev, w.cell? ⟨1, 0, none⟩ = some ev ∧ (ev = .nilIface ∨ ∃ te pe, ev = .iface te pe)
 era : ∃ ev, w.cell? ⟨2, 0, none⟩ = some ev ∧ (ev = .nilIface ∨ ∃ te pe, ev = .iface te pe)
 tab : Lib.TabIs Tryz.prog w "internal/strconv.uint64pow10" .u64 Lib.pow10Tab
 lts : 1 < w.heap.size
 ltr : 2 < w.heap.size
 ltt : 0 < w.heap.size
theorem gPow : Tryz.prog.globalNamed "internal/strconv.uint64pow10" = some 0 := by kernel_rfl
theorem Nums.below {w w' : World} {B : Nat} (h : Nums w) (hb : Below B w w') (h1 : 1 < B) (h2 : 2 < B) (h3 : 0 < B) : Nums w' := by
 obtain ⟨e1, k1, o1⟩ := h.esy
 obtain ⟨e2, k2, o2⟩ := h.era
 refine ⟨⟨e1, (hb.cell (p := ⟨1, 0, none⟩) h1).trans k1, o1⟩, ⟨e2, (hb.cell (p := ⟨2, 0, none⟩) h2).trans k2, o2⟩, ?_, Nat.lt_of_lt_of_le h.lts hb.size, Nat.lt_of_lt_of_le h.ltr hb.size, Nat.lt_of_lt_of_le h.ltt hb.size⟩
 exact var?_below hb gPow h3 h.tab
theorem Nums.go {w w' : World} (h : Nums w) (hb : Below w.heap.size w w') : Nums w' := h.below hb h.lts h.ltr h.ltt
def PiOut (r : Lib.NumEnd Int) (a b : Value) : Prop := match r with
 | .ok v => a = .int .i64 v ∧ b = .nilIface
 | _ => (∃ z, a = .int .i64 z) ∧ ∃ t p, b = .iface t p
theorem pi_n (s : ByteArray) (hs : s.size ≤ 281474976710656) (w : World) (hN : Nums w) :
    Calls Tryz.prog 50 #[.string s, .int .i64 10, .int .i64 64] w fun e w' => ∃ a b, e = .returned (.tuple #[a, b]) ∧ PiOut (Lib.parseIntB 64 s.data.toList) a b ∧ Below w.heap.size w w' := by
 have hbytes : ∀ t : ByteArray, Below w.heap.size w (Lib.bytesWorld w 5 t) := fun t => ⟨rfl, rfl, rfl, by rw [Lib.bytesWorld_size]; omega, fun j hj => Lib.bytesWorld_at_old w 5 t j hj⟩
 cases h : Lib.parseIntB 64 s.data.toList with
 | ok v =>
  refine (Any.strconv_ParseInt_10_at64_ok laysPI s (by omega) v h w).mono ?_
  rintro e w' ⟨he, hw⟩
  refine ⟨_, _, he, ⟨rfl, rfl⟩, ?_⟩
  rcases hw with rfl | ⟨t, rfl⟩
  ·exact Below.refl _ _
  ·exact hbytes t
 | range =>
  obtain ⟨ev, hv, ho⟩ := hN.era
  refine (Any.strconv_ParseInt_10_at64_range laysPI s hs h ev w hv ho).mono ?_
  rintro e w' ⟨N, he, _, _, hb⟩
  exact ⟨_, _, he, ⟨⟨_, rfl⟩, _, _, rfl⟩, hb⟩
 | _ =>
  obtain ⟨ev, hv, ho⟩ := hN.esy
  refine (Any.strconv_ParseInt_10_at64_syntax laysPI s hs h ev w hv ho).mono ?_
  rintro e w' ⟨N, he, _, _, hb⟩
  exact ⟨_, _, he, ⟨⟨_, rfl⟩, _, _, rfl⟩, hb⟩
theorem fi_n (n : Int) (h0 : -9223372036854775808 ≤ n) (h1 : n ≤ 9223372036854775807) (w : World) (hN : Nums w) :
    Calls Tryz.prog 37 #[.int .i64 n, .int .i64 10] w fun e w' => e = .returned (.string ⟨(Lib.itoa n).toArray⟩) ∧ Below w.heap.size w w' := by
 refine (Any.strconv_FormatInt_10 laysFI n h0 h1 w hN.tab).mono ?_
 rintro e w' ⟨he, k, os, rfl⟩
 refine ⟨he, ?_⟩
 exact ⟨rfl, rfl, rfl, by simp [Sort.grow], fun i hi => by
  show ((w.drewN k).heap ++ os)[i]? = _
  rw [Array.getElem?_append_left (by show i < w.heap.size; omega)]
  rfl⟩
end Go.Proofs.YtnpgpcnkdocknaaGreatDoor
namespace Go.Proofs.YtnpgpcnkdocknaaGreatDoor
open Go.RowKit
set_option linter.unusedVariables false
theorem pi_ok (s : ByteArray) (hs : s.size ≤ 281474976710656) (v : Int) (h : Lib.parseIntB 64 s.data.toList = .ok v) (w : World) :
    Calls Tryz.prog 50 #[.string s, .int .i64 10, .int .i64 64] w fun e w' => e = .returned (.tuple #[.int .i64 v, .nilIface]) ∧ Below w.heap.size w w' := by
 have hbytes : ∀ t : ByteArray, Below w.heap.size w (Lib.bytesWorld w 5 t) := fun t => ⟨rfl, rfl, rfl, by rw [Lib.bytesWorld_size]; omega, fun j hj => Lib.bytesWorld_at_old w 5 t j hj⟩
 refine (Any.strconv_ParseInt_10_at64_ok laysPI s (by omega) v h w).mono ?_
 rintro e w' ⟨he, hw⟩
 refine ⟨he, ?_⟩
 rcases hw with rfl | ⟨t, rfl⟩
 ·exact Below.refl _ _
 ·exact hbytes t
set_option maxHeartbeats 4000000 in
set_option maxRecDepth 100000 in
theorem katom_step (n : Nat) (h1 : ∀ m, m < n → KEx m 0) : KAt n := by
 intro k f L w a out ho h ha hf
 cases n with
 | zero => cases ho
 | succ n =>
 have hlt := h.lt
 have hll := h.len.1
 have bl0 : Below w.heap.size w (w.alloc (.cells #[.int .i64 0, .int .i64 0, .string ⟨#[]⟩, .slice none 0 0] 80)) := (Below.refl _ _).alloc (Nat.le_refl _) _
 have HB0 := hid (But.of_b (T := Is k) bl0)
 have HP0 := hid (h.below bl0)
 have HR0 := hid (Blk.made w [.int .i64 0, .int .i64 0, .string ⟨#[]⟩, .slice none 0 0] 80 (base := 0) (Nat.zero_le _))
 obtain ⟨d, hd⟩ : ∃ d, d = w.heap.size := ⟨_, rfl⟩
 have hdk : ¬ d = k := by omega
 have hdw : w.heap.size ≤ d := by omega
 have hWd : d < (w.alloc (.cells #[.int .i64 0, .int .i64 0, .string ⟨#[]⟩, .slice none 0 0] 80)).heap.size := by simp [hd]
 have hkW0 : k < (w.alloc (.cells #[.int .i64 0, .int .i64 0, .string ⟨#[]⟩, .slice none 0 0] 80)).heap.size := by simp; omega
 rw [← hd] at HR0
 have HI := hid (kword_any HP0.out a ha hf (bz [40]))
 have htk := h.toks
 cases hop : isT (bz [40]) (L.drop a) with
 | true =>
  ·skip
   obtain ⟨t, r, hdr, _⟩ := isT_true hop
   obtain ⟨_, _, _, _, halt, _, _, hdr1, _⟩ := h.tok hdr
   rw [exG_open hop, hdr, List.tail_cons, ← hdr1] at ho
   rw [hop] at HI
   have H1 := hid (h1 n (by omega))
   have HE := hid ho
   have haa : a + 1 ≤ L.length := by omega
   clear ho h bl0 h1 hop hdr hdr1 htk
   go_enter Tryz.func106, Tryz.ntmps106
   go_upto_region 1 with (fail)
   rw [← hd]
   clear hd
   generalize (w.alloc (.cells #[.int .i64 0, .int .i64 0, .string ⟨#[]⟩, .slice none 0 0] 80)) = W0 at *
   go_upto_region 2 with (go_at_call 52; refine HI.out.mono ?_; rintro e W1 ⟨rfl, hp1, hb1⟩)
   have HB1 := hid (HB0.out.trans hb1)
   have HP1 := hid hp1
   have HR1 := hid (HR0.out.but hb1 (fun e => hdk e))
   have hz1 := hb1.size
   have hkW1 : k < W1.heap.size := by omega
   have hdW1 : d < W1.heap.size := by omega
   clear hp1 hb1 HB0 HP0 HR0 HI hkW0 hWd
   rcases PO.bind_some HE.out with ⟨q, e1, e2⟩ | ⟨x1, q, e1, e2⟩
   ·have HC := hid (H1.out k a L W1 (a + 1) _ e1 HP1.out haa (by omega))
    have HO := hid e2
    clear e1 e2 HE H1
    go_upto_region 3 with (go_at_call 83; refine HC.out.mono ?_; rintro e w2 ⟨x, z, g, rfl, ⟨t1, hx⟩, hfr, hp2, hb2⟩; obtain ⟨A, c, rfl⟩ := hx.form)
    have bl2 : Below w2.heap.size w2 (w2.alloc (.cells #[.int .i64 t1.kind, .int .i64 t1.num, .string t1.name, .slice A t1.args.length c] 80)) := (Below.refl _ _).alloc (Nat.le_refl _) _
    have HY2 := hid (Blk.made w2 [.int .i64 t1.kind, .int .i64 t1.num, .string t1.name, .slice A t1.args.length c] 80 (base := 0) (Nat.zero_le _))
    have HR2 := hid ((HR1.out.but hb2 (fun e => hdk e)).below bl2)
    have HX2 := hid (hx.below bl2)
    have HP2 := hid (hp2.below bl2)
    have HB2 := hid (HB1.out.trans (hb2.trans (But.of_b bl2)))
    have HFR := hid hfr
    clear hx hp2 hb2 bl2 hfr HB1 HP1 HR1 HC
    generalize (w2.alloc (.cells #[.int .i64 t1.kind, .int .i64 t1.num, .string t1.name, .slice A t1.args.length c] 80)) = W2 at *
    generalize w2.heap.size = d1 at *
    have y0 := HY2.out.cell 0 _ rfl; have y1 := HY2.out.cell 1 _ rfl; have y2 := HY2.out.cell 2 _ rfl; have y3 := HY2.out.cell 3 _ rfl
    have r0 := HR2.out.cell 0 _ rfl; have r1 := HR2.out.cell 1 _ rfl; have r2 := HR2.out.cell 2 _ rfl; have r3 := HR2.out.cell 3 _ rfl
    have f0 := HR2.out.fr 0; have f1 := HR2.out.fr 1; have f2 := HR2.out.fr 2; have f3 := HR2.out.fr 3
    go_wp2
    exact ret_kno Tryz.results106 HR2.out HX2.out hkW1 HP2.out HB2.out hlt hdw hdW1 HO.out HFR.out rfl rfl rfl rfl
   ·have HC := hid (H1.out k a L W1 (a + 1) _ e1 HP1.out haa (by omega))
    have HE2 := hid e2
    clear e1 e2 HE H1
    go_upto_region 5 with (go_at_call 83; refine HC.out.mono ?_; rintro e w2 ⟨x, b, g, rfl, hx, hbr, hbL, hgb, hp2, hb2⟩; obtain ⟨A, c, rfl⟩ := hx.form)
    have bl2 : Below w2.heap.size w2 (w2.alloc (.cells #[.int .i64 x1.kind, .int .i64 x1.num, .string x1.name, .slice A x1.args.length c] 80)) := (Below.refl _ _).alloc (Nat.le_refl _) _
    have HY2 := hid (Blk.made w2 [.int .i64 x1.kind, .int .i64 x1.num, .string x1.name, .slice A x1.args.length c] 80 (base := 0) (Nat.zero_le _))
    have HR2 := hid ((HR1.out.but hb2 (fun e => hdk e)).below bl2)
    have HX2 := hid (hx.below bl2)
    have HP2 := hid (hp2.below bl2)
    have HB2 := hid (HB1.out.trans (hb2.trans (But.of_b bl2)))
    have hz2 := hb2.size
    have HE3 := hid (show PO.bind (some (wantG [bz [41]] (L.drop b))) _ = some out by rw [hbr]; exact HE2.out)
    obtain ⟨d1, hd1⟩ : ∃ d1, d1 = w2.heap.size := ⟨_, rfl⟩
    have hdd : ¬ d1 = k := by omega
    rw [← hd1] at HY2 ⊢
    clear hx hp2 hb2 bl2 hbr HB1 HP1 HR1 HC HE2 hz2 hd1
    generalize (w2.alloc (.cells #[.int .i64 x1.kind, .int .i64 x1.num, .string x1.name, .slice A x1.args.length c] 80)) = W2 at *
    have bl3 : Below W2.heap.size W2 (W2.alloc (.cells #[.string ⟨#[41]⟩] 9)) := (Below.refl _ _).alloc (Nat.le_refl _) _
    have HW := hid (kwords_any (HP2.out.below bl3) b hbL hgb (show WordsAt k (W2.alloc (.cells #[.string ⟨#[41]⟩] 9)) [bz [41]] (.slice (some ⟨W2.heap.size, 0, none⟩) 1 1) from words1 W2 (bz [41]) (by unfold okS; decide) HP2.out.lt))
    have HB3 := hid (HB2.out.trans (But.of_b bl3))
    have HX3 := hid (HX2.out.below bl3)
    have HR3 := hid (HR2.out.below bl3)
    have HY3 := hid (HY2.out.below bl3)
    clear bl3 HB2 HP2 HX2 HR2 HY2
    rcases PO.bind_some HE3.out with ⟨q2, e1, e2⟩ | ⟨u, q2, e1, e2⟩
    ·have HO := hid e2
     have e3 := Option.some.inj e1
     rw [e3] at HW
     clear e1 e2 e3 HE3
     go_wp2_with (go_at_call 84; refine HW.out.mono ?_; rintro e w4 ⟨z, g4, rfl, hfr, hp4, hb4⟩; have hR4 := HR3.out.but hb4 (fun e => hdk e); have hY4 := HY3.out.but hb4 (fun e => hdd e); have r0 := hR4.cell 0 _ rfl; have r1 := hR4.cell 1 _ rfl; have r2 := hR4.cell 2 _ rfl; have r3 := hR4.cell 3 _ rfl; have f0 := hR4.fr 0; have f1 := hR4.fr 1; have f2 := hR4.fr 2; have f3 := hR4.fr 3; have y0 := hY4.cell 0 _ rfl; have y1 := hY4.cell 1 _ rfl; have y2 := hY4.cell 2 _ rfl; have y3 := hY4.cell 3 _ rfl)
     exact ret_kno Tryz.results106 hR4 (HX3.out.but hb4 (.inl hkW1)) hkW1 hp4 (HB3.out.trans hb4) hlt hdw hdW1 HO.out hfr rfl rfl rfl rfl
    ·have HO := hid (Option.some.inj e2).symm
     have e3 := Option.some.inj e1
     rw [e3] at HW
     clear e1 e2 e3 HE3
     go_wp2_with (go_at_call 84; refine HW.out.mono ?_; rintro e w4 ⟨b4, g4, rfl, hbr4, hbl4, hgb4, hp4, hb4⟩; have hR4 := HR3.out.but hb4 (fun e => hdk e); have hY4 := HY3.out.but hb4 (fun e => hdd e); have r0 := hR4.cell 0 _ rfl; have r1 := hR4.cell 1 _ rfl; have r2 := hR4.cell 2 _ rfl; have r3 := hR4.cell 3 _ rfl; have f0 := hR4.fr 0; have f1 := hR4.fr 1; have f2 := hR4.fr 2; have f3 := hR4.fr 3; have y0 := hY4.cell 0 _ rfl; have y1 := hY4.cell 1 _ rfl; have y2 := hY4.cell 2 _ rfl; have y3 := hY4.cell 3 _ rfl)
     exact ret_kok Tryz.results106 hR4 (HX3.out.but hb4 (.inl hkW1)) (fun h => rfl) hkW1 hp4 (HB3.out.trans hb4) hlt hdw hdW1 HO.out hbr4 hbl4 hgb4 rfl rfl rfl rfl
 | false =>
  ·skip
   rw [hop] at HI
   cases hdr : L.drop a with
   | nil =>
    have HO := hid (show out = .no [] by rw [hdr, exG_nil] at ho; exact (Option.some.inj ho).symm)
    have hae := drop_end ha hdr
    have hge : ¬ (a : Int) < (L.length : Int) := by omega
    have HD := hid hdr
    clear ho h bl0 h1 hop hdr hae htk
    go_enter Tryz.func106, Tryz.ntmps106
    go_upto_region 1 with (fail)
    rw [← hd]
    clear hd
    generalize (w.alloc (.cells #[.int .i64 0, .int .i64 0, .string ⟨#[]⟩, .slice none 0 0] 80)) = W0 at *
    go_upto_region 7 with (go_at_call 52; refine HI.out.mono ?_; rintro e W1 ⟨rfl, hp1, hb1⟩)
    have HB1 := hid (HB0.out.trans hb1)
    have HP1 := hid hp1
    have HR1 := hid (HR0.out.but hb1 (fun e => hdk e))
    have hz1 := hb1.size
    have hdW1 : d < W1.heap.size := by omega
    have hkW1 : k < W1.heap.size := by omega
    clear hp1 hb1 HB0 HP0 HR0 HI
    obtain ⟨A, cap, c0, c1, f1, _⟩ := HP1.out.open_
    have HNM := hid (krname_any HP1.out a ha (Nat.le_refl _))
    rw [HD.out] at HNM
    go_wp2_with (go_at_call 82; refine HNM.out.mono ?_; rintro e W2 ⟨x9, z, g, rfl, ⟨s9, rfl, hs9⟩, hfr, hp2, hb2⟩; have hR2 := HR1.out.but hb2 (fun e => hdk e); have r0 := hR2.cell 0 _ rfl; have r1 := hR2.cell 1 _ rfl; have r2 := hR2.cell 2 _ rfl; have r3 := hR2.cell 3 _ rfl; have f0 := hR2.fr 0; have f1 := hR2.fr 1; have f2 := hR2.fr 2; have f3 := hR2.fr 3)
    exact ret_kno (a := .mk 2 0 s9 []) (A := none) (c := 0) (lo := W1.heap.size) (y := k) Tryz.results106 hR2 (RdE.leaf _ _ (by decide) (by decide) (by omega)) hkW1 hp2 (HB1.out.trans hb2) hlt hdw hdW1 HO.out hfr rfl rfl rfl rfl
   | cons t r =>
    have htt := htk t (by have h9 : t ∈ L.drop a := by rw [hdr]; exact List.mem_cons_self ..
                          exact List.mem_of_mem_drop h9)
    obtain ⟨_, _, _, _, halt, _, _, hdr1, _⟩ := h.tok hdr
    have hlt' : (a : Int) < (L.length : Int) := by omega
    have haa : a + 1 ≤ L.length := by omega
    rw [hdr] at ho hop
    have HD := hid hdr
    have HD1 := hid hdr1
    by_cases hk : t.kind = 1
    ·have HO := hid (show out = .ok (numX t) r by rw [exG_num hop hk] at ho; exact (Option.some.inj ho).symm)
     obtain ⟨hv1, hv2⟩ := htt.1.val hk
     have hsz := htt.2
     obtain ⟨y, hy⟩ : ∃ y : Str, y = t.str := ⟨_, rfl⟩
     obtain ⟨z, hz⟩ : ∃ z : Int, z = (vA 0 t.text : Nat) := ⟨_, rfl⟩
     have HAT := hid (fun W => pi_ok y (by rw [hy]; show t.text.length ≤ _; omega) z (by rw [hy, hz]; exact hv2) W)
     have HN := hid (show numX t = .mk 1 z ⟨#[]⟩ [] by rw [hz]; rfl)
     have hz0 : inI z := by unfold inI; omega
     clear ho h bl0 h1 hop htk htt hv1 hv2 hz hsz hdr hdr1
     go_enter Tryz.func106, Tryz.ntmps106
     go_upto_region 1 with (fail)
     rw [← hd]
     clear hd
     generalize (w.alloc (.cells #[.int .i64 0, .int .i64 0, .string ⟨#[]⟩, .slice none 0 0] 80)) = W0 at *
     go_upto_region 7 with (go_at_call 52; refine HI.out.mono ?_; rintro e W1 ⟨rfl, hp1, hb1⟩)
     have HB1 := hid (HB0.out.trans hb1)
     have HP1 := hid hp1
     have HR1 := hid (HR0.out.but hb1 (fun e => hdk e))
     have hz1 := hb1.size
     have hdW1 : d < W1.heap.size := by omega
     have hkW1 : k < W1.heap.size := by omega
     clear hp1 hb1 HB0 HP0 HR0 HI
     obtain ⟨b, off, cap, c0, _, hbk, hok, _, k0, k1, k2⟩ := HP1.out.tok HD.out
     rw [hk] at k0
     rw [← hy] at k2
     clear hok k1 hk hy
     go_wp2_with (go_at_call 50; refine (HAT.out _).mono ?_; rintro e W2 ⟨rfl, hb2⟩; have hR2 := HR1.out.below hb2; have r0 := hR2.cell 0 _ rfl; have r1 := hR2.cell 1 _ rfl; have r2 := hR2.cell 2 _ rfl; have r3 := hR2.cell 3 _ rfl; have f0 := hR2.fr 0; have f1 := hR2.fr 1; have f2 := hR2.fr 2; have f3 := hR2.fr 3)
     exact ret_kok (a := .mk 1 z ⟨#[]⟩ []) (A := none) (c := 0) (lo := W1.heap.size) (y := k) (b := a + 1) Tryz.results106 hR2 (RdE.leaf _ _ (by decide) hz0 (by decide)) (fun _ => rfl) hkW1 (HP1.out.below hb2) (HB1.out.trans (But.of_b hb2)) hlt hdw hdW1 (by rw [HO.out, HN.out]) HD1.out haa (by omega) rfl rfl rfl rfl
    ·rw [exG_name hop hk] at ho
     have HE := hid ho
     have hkb : ((t.kind : Int) == 1) = false := by simpa using hk
     clear ho h bl0 h1 hop htk htt hk hdr hdr1
     go_enter Tryz.func106, Tryz.ntmps106
     go_upto_region 1 with (fail)
     rw [← hd]
     clear hd
     generalize (w.alloc (.cells #[.int .i64 0, .int .i64 0, .string ⟨#[]⟩, .slice none 0 0] 80)) = W0 at *
     go_upto_region 7 with (go_at_call 52; refine HI.out.mono ?_; rintro e W1 ⟨rfl, hp1, hb1⟩)
     have HB1 := hid (HB0.out.trans hb1)
     have HP1 := hid hp1
     have HR1 := hid (HR0.out.but hb1 (fun e => hdk e))
     have hz1 := hb1.size
     have hdW1 : d < W1.heap.size := by omega
     have hkW1 : k < W1.heap.size := by omega
     clear hp1 hb1 HB0 HP0 HR0 HI
     obtain ⟨b, off, cap, c0, _, hbk, hok, _, k0, k1, k2⟩ := HP1.out.tok HD.out
     clear hok k1 k2
     have HNM := hid (krname_any HP1.out a ha (Nat.le_refl _))
     rw [HD.out] at HNM
     rcases PO.bind_some HE.out with ⟨q, e1, e2⟩ | ⟨s, q, e1, e2⟩
     ·have HO := hid e2
      have e3 := Option.some.inj e1
      rw [e3] at HNM
      clear e1 e2 HE e3
      go_wp2_with (go_at_call 82; refine HNM.out.mono ?_; rintro e W2 ⟨x9, z, g, rfl, ⟨s9, rfl, hs9⟩, hfr, hp2, hb2⟩; have hR2 := HR1.out.but hb2 (fun e => hdk e); have r0 := hR2.cell 0 _ rfl; have r1 := hR2.cell 1 _ rfl; have r2 := hR2.cell 2 _ rfl; have r3 := hR2.cell 3 _ rfl; have f0 := hR2.fr 0; have f1 := hR2.fr 1; have f2 := hR2.fr 2; have f3 := hR2.fr 3)
      exact ret_kno (a := .mk 2 0 s9 []) (A := none) (c := 0) (lo := W1.heap.size) (y := k) Tryz.results106 hR2 (RdE.leaf _ _ (by decide) (by decide) (by omega)) hkW1 hp2 (HB1.out.trans hb2) hlt hdw hdW1 HO.out hfr rfl rfl rfl rfl
     ·have HO := hid (Option.some.inj e2).symm
      have e3 := Option.some.inj e1
      rw [e3] at HNM
      clear e1 e2 HE e3
      go_wp2_with (go_at_call 82; refine HNM.out.mono ?_; rintro e W2 ⟨x9, b9, g, rfl, ⟨rfl, hs9⟩, hbr9, hbl9, hgb9, hp2, hb2⟩; have hR2 := HR1.out.but hb2 (fun e => hdk e); have r0 := hR2.cell 0 _ rfl; have r1 := hR2.cell 1 _ rfl; have r2 := hR2.cell 2 _ rfl; have r3 := hR2.cell 3 _ rfl; have f0 := hR2.fr 0; have f1 := hR2.fr 1; have f2 := hR2.fr 2; have f3 := hR2.fr 3)
      exact ret_kok (a := .mk 2 0 s []) (A := none) (c := 0) (lo := W1.heap.size) (y := k) Tryz.results106 hR2 (RdE.leaf _ _ (by decide) (by decide) (by omega)) (fun _ => rfl) hkW1 hp2 (HB1.out.trans hb2) hlt hdw hdW1 HO.out hbr9 hbl9 hgb9 rfl rfl rfl rfl
set_option maxHeartbeats 400000 in
theorem kexpr_three (n : Nat) (h : KAt n) : KEx n 3 := by
 intro k f L w a out ho hp ha hf
 have hlt := hp.lt
 --(.cells #[.int .i64 0, .int .i64 0, .string ⟨#[]⟩, .slice none 0 0] 80) = (.cells #[.int .i64 0, .int .i64 0, .string ⟨#[]⟩, .slice none 0 0] 80)
 have bl0 : Below w.heap.size w (w.alloc (.cells #[.int .i64 0, .int .i64 0, .string ⟨#[]⟩, .slice none 0 0] 80)) := (Below.refl _ _).alloc (Nat.le_refl _) _
 have HB0 := hid (But.of_b (T := Is k) bl0)
 have HR0 := hid (Blk.made w [.int .i64 0, .int .i64 0, .string ⟨#[]⟩, .slice none 0 0] 80 (base := 0) (Nat.zero_le _))
 have HC := hid (h k f L (w.alloc (.cells #[.int .i64 0, .int .i64 0, .string ⟨#[]⟩, .slice none 0 0] 80)) a out ho (hp.below bl0) ha hf)
 have hdk : ¬ w.heap.size = k := by omega
 have hWd : w.heap.size < (w.alloc (.cells #[.int .i64 0, .int .i64 0, .string ⟨#[]⟩, .slice none 0 0] 80)).heap.size := by simp
 have hkW0 : k < (w.alloc (.cells #[.int .i64 0, .int .i64 0, .string ⟨#[]⟩, .slice none 0 0] 80)).heap.size := by simp; omega
 clear hp ho bl0 h
 go_enter Tryz.func83, Tryz.ntmps83
 cases out with
 | no r =>
  go_wp2_with (go_at_call 106; refine HC.out.mono ?_; rintro e W2 ⟨x9, z, g, rfl, ⟨t9, hx⟩, hfr, hp2, hb2⟩; obtain ⟨A, c, rfl⟩ := hx.form; have hR2 := HR0.out.but hb2 (fun e => hdk e); have r0 := hR2.cell 0 _ rfl; have r1 := hR2.cell 1 _ rfl; have r2 := hR2.cell 2 _ rfl; have r3 := hR2.cell 3 _ rfl; have f0 := hR2.fr 0; have f1 := hR2.fr 1; have f2 := hR2.fr 2; have f3 := hR2.fr 3)
  exact ret_kno Tryz.results83 hR2 hx hkW0 hp2 (HB0.out.trans hb2) hlt (Nat.le_refl _) hWd rfl hfr rfl rfl rfl rfl
 | ok x r =>
  go_wp2_with (go_at_call 106; refine HC.out.mono ?_; rintro e W2 ⟨x9, b9, g, rfl, hx, hbr9, hbl9, hgb9, hp2, hb2⟩; obtain ⟨A, c, rfl⟩ := hx.form; have hR2 := HR0.out.but hb2 (fun e => hdk e); have r0 := hR2.cell 0 _ rfl; have r1 := hR2.cell 1 _ rfl; have r2 := hR2.cell 2 _ rfl; have r3 := hR2.cell 3 _ rfl; have f0 := hR2.fr 0; have f1 := hR2.fr 1; have f2 := hR2.fr 2; have f3 := hR2.fr 3)
  exact ret_kok Tryz.results83 hR2 hx (fun _ => rfl) hkW0 hp2 (HB0.out.trans hb2) hlt (Nat.le_refl _) hWd rfl hbr9 hbl9 hgb9 rfl rfl rfl rfl
theorem kx_every (n : Nat) : KEx n 0 ∧ KEx n 1 ∧ KEx n 2 ∧ KEx n 3 := by
 induction n using Nat.strongRecOn with
 | ind n ih => exact ⟨kexpr_step n 0 (by decide) (fun m hm => (ih m hm).2.1), kexpr_step n 1 (by decide) (fun m hm => (ih m hm).2.2.1), kexpr_step n 2 (by decide) (fun m hm => (ih m hm).2.2.2), kexpr_three n (katom_step n (fun m hm => (ih m hm).1))⟩
theorem kexpr_any (n : Nat) : KEx n 0 := (kx_every n).1
end Go.Proofs.YtnpgpcnkdocknaaGreatDoor
