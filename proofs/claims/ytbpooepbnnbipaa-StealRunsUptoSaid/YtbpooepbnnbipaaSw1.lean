/- The walk of the reference's vpart. -/
import Derived.Test.YtbpooepbnnbipaaStTxt
import Derived.Test.YtbpooepbnnbipaaSp7
import Derived.Test.YtbpooepbnnbipaaBlk
import Derived.Lib.ConvBytes
namespace Go.Proofs.Ytbpooepbnnbipaa
open Go.RowKit
set_option linter.unusedVariables false
abbrev txtP (p : Pt) : ByteArray := ⟨(bytesP p).toArray⟩
/-- the term's five cells -/
def tmC (V : Value) (cs : List Value) : Prop := V = .agg cs.toArray ∧ cs.length = 5
/-- behind i steps: what the loop holds -/
structure VpAt (t : Tm) (p : Pt) (w : World) (S : Blocks) (X R B : Nat) (i : Nat) (n : Value) (wr : World) (x : Tm) (k c : Int) (wb : Bool) (lb : Int) (v : Value) : Prop where
  sub : subT t (wayP p i) = some x
  num : n = .int .i64 (lfP t (wayP p i) : Int)
  box : Blk w.heap.size wr X [.int .i64 k, .int .i64 c, .bool wb, .int .i64 lb, v]
  rd : RdT wr S x (tmV k c wb lb v)
  row : ∀ (j : Nat) b, (bytesP p)[j]? = some b → wr.cell? ⟨B, j, none⟩ = some (.int .u8 (b.toNat : Int))
  res : Blk w.heap.size wr R [.int .i64 0, .int .i64 0, .bool false, .int .i64 0, .slice none 0 0]
  bel : Below w.heap.size w wr
  blt : B < wr.heap.size
/-- one step on: the part of that step lies in the box -/
theorem vp_next {t : Tm} {p : Pt} {w : World} {S : Blocks} {X R B q : Nat} {x : Tm} {W2 : World} {o0 o1 o2 o3 o4 n : Value} {k c lb : Int} {wb : Bool} {v : Value} (hX : X = w.heap.size) (hR : R = w.heap.size + 1) (hB : B = w.heap.size + 1 + 1) (hS : Sub S (Upto w.heap.size)) (bx : Blk w.heap.size W2 X [o0, o1, o2, o3, o4])
    (br : Blk w.heap.size W2 R [.int .i64 0, .int .i64 0, .bool false, .int .i64 0, .slice none 0 0]) (row : ∀ (j : Nat) b, (bytesP p)[j]? = some b → W2.cell? ⟨B, j, none⟩ = some (.int .u8 (b.toNat : Int))) (bel : Below w.heap.size w W2) (blt : B < W2.heap.size) (hsub : subT t (wayP p q) = some x) (hn : n = .int .i64 (lfP t (wayP p q) : Int)) (rd : RdT W2 S x (tmV k c wb lb v)) :
    VpAt t p w S X R B q n (((((W2.setCell ⟨X, 0, none⟩ (.int .i64 k)).setCell ⟨X, 1, none⟩ (.int .i64 c)).setCell ⟨X, 2, none⟩ (.bool wb)).setCell ⟨X, 3, none⟩ (.int .i64 lb)).setCell ⟨X, 4, none⟩ v) x k c wb lb v := by
  have hb : But (Is X) W2 (((((W2.setCell ⟨X, 0, none⟩ (.int .i64 k)).setCell ⟨X, 1, none⟩ (.int .i64 c)).setCell ⟨X, 2, none⟩ (.bool wb)).setCell ⟨X, 3, none⟩ (.int .i64 lb)).setCell ⟨X, 4, none⟩ v) := ((((((But.refl (Is X) W2).setCell (p := ⟨X, 0, none⟩) rfl (.int .i64 k)).setCell (p := ⟨X, 1, none⟩) rfl (.int .i64 c)).setCell (p := ⟨X, 2, none⟩) rfl (.bool wb)).setCell (p := ⟨X, 3, none⟩) rfl (.int .i64 lb)).setCell (p := ⟨X, 4, none⟩) rfl v)
  refine ⟨hsub, hn, ((((bx.set (i := 0) (by simp) (.int .i64 k)).set (i := 1) (by simp) (.int .i64 c)).set (i := 2) (by simp) (.bool wb)).set (i := 3) (by simp) (.int .i64 lb)).set (i := 4) (by simp) v, rd.but hb (hS.trans (Sub.upto bel.size)) (fun b hb2 e => ?_), fun j b hj => hb.cell (fun e => ?_) (row j b hj), br.but hb (fun e => ?_), bel.trans (hb.below bel.size fun b e => ?_), Nat.lt_of_lt_of_le blt hb.size⟩
  · have h1 : b < w.heap.size := hS b hb2
    have e : b = X := e
    omega
  · have e : B = X := e
    omega
  · have e : R = X := e
    omega
  · have e : b = X := e
    omega
theorem bytes_below (w : World) (e : TypeId) (s : ByteArray) : Below w.heap.size w (Lib.bytesWorld w e s) :=
  ⟨rfl, rfl, rfl, by rw [Lib.bytesWorld_size]; omega, fun k hk => Lib.bytesWorld_at_old w e s k hk⟩
set_option maxHeartbeats 2000000 in
set_option maxRecDepth 100000 in
theorem vpart_any (t : Tm) (p : Pt) (x : Tm) (hx : subT t p = some x) (w : World) (S : Blocks) (V : Value) (r : RdT w S t V) (hS : Sub S (Upto w.heap.size)) (hl : t.count ≤ 1048576) (hp : p.length ≤ 1048576) :
    Calls Try.prog 19 #[V, .string (txtP p)] w fun e w' => ∃ Vx, e = .returned (.tuple #[Vx, .int .i64 (lfP t p : Int)]) ∧ RdT w' S x Vx ∧ Below w.heap.size w w' := by
  have RT := Lib.hid r
  have HS := Lib.hid hS
  obtain ⟨kk, c, wr', lb, kids, vk, rfl, rfl, hk, hc, hlb, hkids⟩ := r
  obtain ⟨A, cap, rfl, hcl, hcm, _⟩ := hkids.form
  have hsz : (txtP p).size = p.length := by simp [ByteArray.size, bytesP_len]
  have hcv : ∀ w : World, (convert 9 106 (.string (txtP p))).run Try.prog w = .ok (.slice (some ⟨w.heap.size, 0, none⟩) p.length (grownCap w p.length 0 5)) (Lib.bytesWorld w 5 (txtP p)) := fun w => by
    have := Lib.run_convert_string_bytes (P := Try.prog) w 9 106 5 (txtP p) Try.underlying9 Try.underlying106 Try.underlying5
    rw [hsz] at this
    exact this
  obtain ⟨T, hT⟩ : ∃ T, T = Tm.mk kk c wr' lb kids := ⟨_, rfl⟩
  rw [← hT] at RT hx hl ⊢
  obtain ⟨s, hs⟩ : ∃ s, s = txtP p := ⟨_, rfl⟩
  rw [← hs] at hcv ⊢
  have HSS := Lib.hid hs
  have HSZ := Lib.hid hsz
  unfold tmV at *
  generalize kids.length = n' at *
  clear hkids hk hlb hc hT hs hsz hS
  go_enter Try.func19, Try.ntmps19
  go_upto_region 3 with (fail)
  change Code.wp _ _ _ _ (Lib.bytesWorld ((w.alloc (.cells [.int .i64 kk, .int .i64 c, .bool wr', .int .i64 lb, .slice A n' cap].toArray 26)).alloc (.cells [.int .i64 0, .int .i64 0, .bool false, .int .i64 0, .slice none 0 0].toArray 26)) 5 s)
  have b1 : Below w.heap.size w ((w.alloc (.cells [.int .i64 kk, .int .i64 c, .bool wr', .int .i64 lb, .slice A n' cap].toArray 26)).alloc (.cells [.int .i64 0, .int .i64 0, .bool false, .int .i64 0, .slice none 0 0].toArray 26)) := ((Below.refl _ _).alloc (Nat.le_refl _) _).alloc (by simp) _
  have bb := bytes_below ((w.alloc (.cells [.int .i64 kk, .int .i64 c, .bool wr', .int .i64 lb, .slice A n' cap].toArray 26)).alloc (.cells [.int .i64 0, .int .i64 0, .bool false, .int .i64 0, .slice none 0 0].toArray 26)) 5 s
  have bX := (((Blk.made w [.int .i64 kk, .int .i64 c, .bool wr', .int .i64 lb, .slice A n' cap] 26 (Nat.le_refl _)).below ((Below.refl _ _).alloc (Nat.le_refl _) (.cells [.int .i64 0, .int .i64 0, .bool false, .int .i64 0, .slice none 0 0].toArray 26)))).below bb
  have bR := (Blk.made (w.alloc (.cells [.int .i64 kk, .int .i64 c, .bool wr', .int .i64 lb, .slice A n' cap].toArray 26)) [.int .i64 0, .int .i64 0, .bool false, .int .i64 0, .slice none 0 0] 26 (base := w.heap.size) (by simp)).below bb
  have bel := b1.trans (bb.mono b1.size)
  have hrow : ∀ (j : Nat) b, (bytesP p)[j]? = some b → (Lib.bytesWorld ((w.alloc (.cells [.int .i64 kk, .int .i64 c, .bool wr', .int .i64 lb, .slice A n' cap].toArray 26)).alloc (.cells [.int .i64 0, .int .i64 0, .bool false, .int .i64 0, .slice none 0 0].toArray 26)) 5 s).cell? ⟨w.heap.size + 1 + 1, j, none⟩ = some (.int .u8 (b.toNat : Int)) := fun j b hb => by
    have hj : j < s.size := by rw [HSS.out, HSZ.out]; have := (List.getElem?_eq_some_iff.1 hb).1; rw [bytesP_len] at this; exact this
    have := Lib.bytesWorld_cell ((w.alloc (.cells [.int .i64 kk, .int .i64 c, .bool wr', .int .i64 lb, .slice A n' cap].toArray 26)).alloc (.cells [.int .i64 0, .int .i64 0, .bool false, .int .i64 0, .slice none 0 0].toArray 26)) 5 s j hj
    have hsz2 : (((w.alloc (.cells [.int .i64 kk, .int .i64 c, .bool wr', .int .i64 lb, .slice A n' cap].toArray 26)).alloc (.cells [.int .i64 0, .int .i64 0, .bool false, .int .i64 0, .slice none 0 0].toArray 26))).heap.size = w.heap.size + 1 + 1 := by simp
    rw [hsz2] at this
    rw [this, HSS.out]
    simp [List.getD, hb]
  have hblt : w.heap.size + 1 + 1 < (Lib.bytesWorld ((w.alloc (.cells [.int .i64 kk, .int .i64 c, .bool wr', .int .i64 lb, .slice A n' cap].toArray 26)).alloc (.cells [.int .i64 0, .int .i64 0, .bool false, .int .i64 0, .slice none 0 0].toArray 26)) 5 s).heap.size := by rw [Lib.bytesWorld_size]; simp
  have hR1 : (w.alloc (.cells [.int .i64 kk, .int .i64 c, .bool wr', .int .i64 lb, .slice A n' cap].toArray 26)).heap.size = w.heap.size + 1 := by simp
  rw [hR1] at bR
  have HV0 := Lib.hid (show VpAt T p w S w.heap.size (w.heap.size + 1) (w.heap.size + 1 + 1) 0 (.int .i64 0) _ T kk c wr' lb (.slice A n' cap) from
    ⟨by rw [wayP_zero]; rfl, by rw [wayP_zero]; rfl, bX, RT.out.go bel HS.out, hrow, bR, bel, hblt⟩)
  clear b1 bb bX bR bel hrow hblt hR1
  generalize grownCap _ p.length 0 _ = gc
  generalize Lib.bytesWorld ((w.alloc (.cells [.int .i64 kk, .int .i64 c, .bool wr', .int .i64 lb, .slice A n' cap].toArray 26)).alloc (.cells [.int .i64 0, .int .i64 0, .bool false, .int .i64 0, .slice none 0 0].toArray 26)) 5 s = W at *
  obtain ⟨X, hX⟩ : ∃ X, X = w.heap.size := ⟨_, rfl⟩
  obtain ⟨R, hR⟩ : ∃ R, R = w.heap.size + 1 := ⟨_, rfl⟩
  obtain ⟨B, hB⟩ : ∃ B, B = w.heap.size + 1 + 1 := ⟨_, rfl⟩
  rw [← hB, ← hR] at HV0
  rw [← hB, ← hR, ← hX]
  have HV : Hid (∃ x k c wb lb v, VpAt T p w S X R B 0 (.int .i64 0) W x k c wb lb v) := Lib.hid ⟨_, _, _, _, _, _, by rw [hX]; exact HV0.out⟩
  have hXR : X ≠ R := by omega
  have HXW := Lib.hid hX
  have HRW := Lib.hid hR
  have HBW := Lib.hid hB
  clear HV0 hX hR hB hcv
  go_wp2
  go_loopw [6, 15] (fun n i wr => ∃ q : Nat, q ≤ p.length ∧ i = .int .i64 (q : Int) ∧ Hid (∃ x k c wb lb v, VpAt T p w S X R B q n wr x k c wb lb v)) (fun _ i _ => p.length - (intOf i).toNat)
  case atStart => exact ⟨0, Nat.zero_le _, rfl, HV⟩
  case round =>
    clear HV
    obtain ⟨q, hq, rfl, HVQ⟩ := hrel
    obtain ⟨x', k1, c1, wb1, lb1, v1, hV⟩ := HVQ.out
    obtain ⟨A1, m1, p1, rfl⟩ := hV.rd.slice
    have HV := Lib.hid hV
    have hn := hV.num
    subst hn
    have x0 := hV.box.cell 0 _ rfl; have x1 := hV.box.cell 1 _ rfl; have x2 := hV.box.cell 2 _ rfl; have x3 := hV.box.cell 3 _ rfl; have x4 := hV.box.cell 4 _ rfl
    by_cases hlt : q < p.length
    · obtain ⟨b, hw, hb⟩ := wayP_step hlt
      have hsn := wayP_sub (t := T) (p := p) (by rw [hx]; rfl) (q + 1)
      rw [hw] at hsn
      obtain ⟨par, xa, xb, h2⟩ := subT_up hsn
      have hkid := subT_kid h2 b
      have h2' : x'.two = some (par, xa, xb) := by unfold twoT at h2; rw [hV.sub] at h2; exact h2
      have cb := hV.row q _ hb
      have HW2 := Lib.hid hw
      have HK2 := Lib.hid hkid
      have HT2 := Lib.hid h2
      have HBO := Lib.hid (both_two x' par xa xb h2' wr S _ (HS.out.trans (Sub.upto HV.out.bel.size)) HV.out.rd)
      have hql : (q : Int) < (p.length : Int) := by omega
      clear hV hw hb hsn h2 h2' hkid HVQ
      go_wp2_with fail
      refine HBO.out.mono ?_
      rintro e w4 ⟨⟨Va, Vb, rfl, ra, rb⟩, hb4⟩
      obtain ⟨ka, ca, wa, la, kidsa, va, ea, rfl, _, _, _, hka⟩ := id ra
      obtain ⟨Aa, na, rfl, _⟩ := hka.form
      obtain ⟨kb, cb', wb', lb', kidsb, vb, eb, rfl, _, _, _, hkb⟩ := id rb
      obtain ⟨Ab, nb, rfl, _⟩ := hkb.form
      have RA := Lib.hid ra
      have RB := Lib.hid rb
      have HB4 := Lib.hid hb4
      generalize kidsa.length = na' at *
      generalize kidsb.length = nb' at *
      clear ra rb hb4 hka hkb ea eb
      unfold tmV
      go_upto_region 6 with (fail)
      have bw2 : Below w4.heap.size w4 ((w4.alloc (.cells [.int .i64 ka, .int .i64 ca, .bool wa, .int .i64 la, .slice Aa na' na].toArray 26)).alloc (.cells [.int .i64 kb, .int .i64 cb', .bool wb', .int .i64 lb', .slice Ab nb' nb].toArray 26)) := ((Below.refl _ _).alloc (Nat.le_refl _) _).alloc (by simp) _
      have B9 := (Blk.made w4 [.int .i64 ka, .int .i64 ca, .bool wa, .int .i64 la, .slice Aa na' na] 26 (Nat.le_refl _)).below ((Below.refl _ _).alloc (Nat.le_refl _) (.cells [.int .i64 kb, .int .i64 cb', .bool wb', .int .i64 lb', .slice Ab nb' nb].toArray 26))
      have hw4s : (w4.alloc (.cells [.int .i64 ka, .int .i64 ca, .bool wa, .int .i64 la, .slice Aa na' na].toArray 26)).heap.size = w4.heap.size + 1 := by simp
      have B10 := Blk.made (w4.alloc (.cells [.int .i64 ka, .int .i64 ca, .bool wa, .int .i64 la, .slice Aa na' na].toArray 26)) [.int .i64 kb, .int .i64 cb', .bool wb', .int .i64 lb', .slice Ab nb' nb] 26 (base := w4.heap.size) (by simp)
      rw [hw4s] at B10
      change Code.wp _ _ _ _ ((w4.alloc (.cells [.int .i64 ka, .int .i64 ca, .bool wa, .int .i64 la, .slice Aa na' na].toArray 26)).alloc (.cells [.int .i64 kb, .int .i64 cb', .bool wb', .int .i64 lb', .slice Ab nb' nb].toArray 26))
      have BRW : Below wr.heap.size wr ((w4.alloc (.cells [.int .i64 ka, .int .i64 ca, .bool wa, .int .i64 la, .slice Aa na' na].toArray 26)).alloc (.cells [.int .i64 kb, .int .i64 cb', .bool wb', .int .i64 lb', .slice Ab nb' nb].toArray 26)) := HB4.out.trans (bw2.mono HB4.out.size)
      have BXA := Lib.hid (HV.out.box.below BRW)
      have BRA := Lib.hid (HV.out.res.below BRW)
      have HROW := Lib.hid (show ∀ (j : Nat) b, (bytesP p)[j]? = some b → (((w4.alloc (.cells [.int .i64 ka, .int .i64 ca, .bool wa, .int .i64 la, .slice Aa na' na].toArray 26)).alloc (.cells [.int .i64 kb, .int .i64 cb', .bool wb', .int .i64 lb', .slice Ab nb' nb].toArray 26))).cell? ⟨B, j, none⟩ = some (.int .u8 (b.toNat : Int)) from fun j b hb => (But.of_below (T := Nowhere) BRW).cell (fun h => h) (HV.out.row j b hb))
      have HBEL := Lib.hid (HV.out.bel.trans (BRW.mono HV.out.bel.size))
      have HSW : Hid (Sub S (Upto w4.heap.size)) := Lib.hid (HS.out.trans (Sub.upto (Nat.le_trans HV.out.bel.size HB4.out.size)))
      have RA2 := Lib.hid (RA.out.go bw2 HSW.out)
      have RB2 := Lib.hid (RB.out.go bw2 HSW.out)
      have HWW := Lib.hid bw2.size
      have HBLT : Hid (B < (((w4.alloc (.cells [.int .i64 ka, .int .i64 ca, .bool wa, .int .i64 la, .slice Aa na' na].toArray 26)).alloc (.cells [.int .i64 kb, .int .i64 cb', .bool wb', .int .i64 lb', .slice Ab nb' nb].toArray 26))).heap.size) := Lib.hid (Nat.lt_of_lt_of_le HV.out.blt BRW.size)
      have hX4 : X < w4.heap.size := Nat.lt_of_lt_of_le HV.out.box.lt HB4.out.size
      clear bw2 hw4s BRW x0 x1 x2 x3 x4 cb
      generalize ((w4.alloc (.cells [.int .i64 ka, .int .i64 ca, .bool wa, .int .i64 la, .slice Aa na' na].toArray 26)).alloc (.cells [.int .i64 kb, .int .i64 cb', .bool wb', .int .i64 lb', .slice Ab nb' nb].toArray 26)) = W2 at *
      have y0 := BXA.out.cell 0 _ rfl; have y1 := BXA.out.cell 1 _ rfl; have y2 := BXA.out.cell 2 _ rfl; have y3 := BXA.out.cell 3 _ rfl; have y4 := BXA.out.cell 4 _ rfl
      have g0 := BXA.out.fr 0; have g1 := BXA.out.fr 1; have g2 := BXA.out.fr 2; have g3 := BXA.out.fr 3; have g4 := BXA.out.fr 4
      have a0 := B9.cell 0 _ rfl; have a1 := B9.cell 1 _ rfl; have a2 := B9.cell 2 _ rfl; have a3 := B9.cell 3 _ rfl; have a4 := B9.cell 4 _ rfl
      have b0 := B10.cell 0 _ rfl; have b1 := B10.cell 1 _ rfl; have b2 := B10.cell 2 _ rfl; have b3 := B10.cell 3 _ rfl; have b4 := B10.cell 4 _ rfl
      cases b with
      | false =>
        have hst : ((stepB false).toNat : Int) = 108 := rfl
        rw [hst]
        clear hst
        have HN := Lib.hid (vp_next (q := q + 1) (n := .int .i64 (lfP T (wayP p q) : Int)) HXW.out HRW.out HBW.out HS.out BXA.out BRA.out HROW.out HBEL.out HBLT.out (by rw [HW2.out]; exact HK2.out) (by rw [HW2.out]; simp [lfP]) RA2.out)
        go_wp2
        go_roundw
        case rel => exact ⟨q + 1, by omega, by go_num, Lib.hid ⟨_, _, _, _, _, _, HN.out⟩⟩
        case measure => simp [intOf]; omega
      | true =>
        have hst : ((stepB true).toNat : Int) = 114 := rfl
        rw [hst]
        clear hst
        have hle2 : lfP T (wayP p q) + xa.count ≤ 1048576 := by
          obtain ⟨y, hy⟩ := Option.isSome_iff_exists.1 (subT_of_two HT2.out)
          have h3 := HT2.out
          unfold twoT at h3
          rw [hy] at h3
          have h4 := lf_count _ y hy
          rw [Tm.count_two (show y.two = some (par, xa, xb) from h3)] at h4
          omega
        have hle : xa.count ≤ 1048576 := by omega
        have HDL := Lib.hid (dls_all xa W2 S _ (HSW.out.trans (Sub.upto HWW.out)) RA2.out hle)
        go_wp2_with fail
        refine HDL.out.mono ?_
        rintro e w5 ⟨xv, rfl, hxv, hb5⟩
        obtain ⟨Ax, nx, rfl⟩ := hxv.form
        have BX5 := Lib.hid (BXA.out.below hb5)
        have BR5 := Lib.hid (BRA.out.below hb5)
        have b10 := B10.below hb5
        have HROW5 := Lib.hid (show ∀ (j : Nat) b, (bytesP p)[j]? = some b → w5.cell? ⟨B, j, none⟩ = some (.int .u8 (b.toNat : Int)) from fun j b hb => (But.of_below (T := Nowhere) hb5).cell (fun h => h) (HROW.out j b hb))
        have HBEL5 := Lib.hid (HBEL.out.trans (hb5.mono HBEL.out.size))
        have HBLT5 := Lib.hid (Nat.lt_of_lt_of_le HBLT.out hb5.size)
        have RB5 := Lib.hid (RB2.out.go hb5 (HS.out.trans (Sub.upto HBEL.out.size)))
        obtain ⟨m9, hm9⟩ : ∃ m, m = xa.leaves.length := ⟨_, rfl⟩
        have hm9c : m9 = xa.count := hm9
        rw [← hm9]
        have hlf : lfP T (wayP p (q + 1)) = lfP T (wayP p q) + m9 := by rw [HW2.out, hm9c]; simp [lfP, HT2.out]
        have HN := Lib.hid (vp_next (q := q + 1) (n := .int .i64 ((lfP T (wayP p q) : Int) + (m9 : Int))) HXW.out HRW.out HBW.out HS.out BX5.out BR5.out HROW5.out HBEL5.out HBLT5.out (by rw [HW2.out]; exact HK2.out) (by rw [hlf]; simp) RB5.out)
        generalize lfP T (wayP p q) = l0 at *
        have hl9 : l0 + m9 ≤ 1048576 := by omega
        have y0 := BX5.out.cell 0 _ rfl; have y1 := BX5.out.cell 1 _ rfl; have y2 := BX5.out.cell 2 _ rfl; have y3 := BX5.out.cell 3 _ rfl; have y4 := BX5.out.cell 4 _ rfl
        have g0 := BX5.out.fr 0; have g1 := BX5.out.fr 1; have g2 := BX5.out.fr 2; have g3 := BX5.out.fr 3; have g4 := BX5.out.fr 4
        have b0 := b10.cell 0 _ rfl; have b1 := b10.cell 1 _ rfl; have b2 := b10.cell 2 _ rfl; have b3 := b10.cell 3 _ rfl; have b4 := b10.cell 4 _ rfl
        clear hxv hb5 B9 B10 b10 hm9 hm9c hlf hle hle2 a0 a1 a2 a3 a4
        go_wp2
        go_roundw
        case rel => exact ⟨q + 1, by omega, by go_num, Lib.hid ⟨_, _, _, _, _, _, HN.out⟩⟩
        case measure => simp [intOf]; omega
    · have e : q = p.length := by omega
      subst e
      have hxx : x' = x := by
        have := hV.sub
        rw [wayP_all, hx] at this
        injection this with this
        exact this.symm
      have HXX := Lib.hid hxx
      have r0 := hV.res.cell 0 _ rfl; have r1 := hV.res.cell 1 _ rfl; have r2 := hV.res.cell 2 _ rfl; have r3 := hV.res.cell 3 _ rfl; have r4 := hV.res.cell 4 _ rfl
      have f0 := hV.res.fr 0; have f1 := hV.res.fr 1; have f2 := hV.res.fr 2; have f3 := hV.res.fr 3; have f4 := hV.res.fr 4
      have HLF : Hid (lfP T (wayP p p.length) = lfP T p) := Lib.hid (by rw [wayP_all])
      clear hV hxx HVQ
      go_wp2
      have BF : Blk w.heap.size (((((wr.setCell ⟨R, 0, none⟩ (.int .i64 k1)).setCell ⟨R, 1, none⟩ (.int .i64 c1)).setCell ⟨R, 2, none⟩ (.bool wb1)).setCell ⟨R, 3, none⟩ (.int .i64 lb1)).setCell ⟨R, 4, none⟩ (.slice A1 m1 p1)) R [.int .i64 k1, .int .i64 c1, .bool wb1, .int .i64 lb1, .slice A1 m1 p1] := ((((HV.out.res.set (i := 0) (by simp) (.int .i64 k1)).set (i := 1) (by simp) (.int .i64 c1)).set (i := 2) (by simp) (.bool wb1)).set (i := 3) (by simp) (.int .i64 lb1)).set (i := 4) (by simp) (.slice A1 m1 p1)
      have hbe : Below w.heap.size w (((((wr.setCell ⟨R, 0, none⟩ (.int .i64 k1)).setCell ⟨R, 1, none⟩ (.int .i64 c1)).setCell ⟨R, 2, none⟩ (.bool wb1)).setCell ⟨R, 3, none⟩ (.int .i64 lb1)).setCell ⟨R, 4, none⟩ (.slice A1 m1 p1)) := HV.out.bel.trans (((((((But.refl (Is R) wr).setCell (p := ⟨R, 0, none⟩) rfl (.int .i64 k1)).setCell (p := ⟨R, 1, none⟩) rfl (.int .i64 c1)).setCell (p := ⟨R, 2, none⟩) rfl (.bool wb1)).setCell (p := ⟨R, 3, none⟩) rfl (.int .i64 lb1)).setCell (p := ⟨R, 4, none⟩) rfl (.slice A1 m1 p1)).below HV.out.bel.size (fun b hb => by have e : b = R := hb; have := HRW.out; omega))
      have HBE := Lib.hid hbe
      have HRX : Hid (∃ V, RdT w S x' V ∧ V = tmV k1 c1 wb1 lb1 (.slice A1 m1 p1)) := Lib.hid ⟨_, HV.out.rd.keep (Sub.refl _) (fun a ha => (World.cell?_of_block (HV.out.bel.block _ (HS.out _ ha))).symm), rfl⟩
      clear hbe r0 r1 r2 r3 r4 f0 f1 f2 f3 f4 x0 x1 x2 x3 x4
      generalize (((((wr.setCell ⟨R, 0, none⟩ (.int .i64 k1)).setCell ⟨R, 1, none⟩ (.int .i64 c1)).setCell ⟨R, 2, none⟩ (.bool wb1)).setCell ⟨R, 3, none⟩ (.int .i64 lb1)).setCell ⟨R, 4, none⟩ (.slice A1 m1 p1)) = WE at *
      have r0 := BF.cell 0 _ rfl; have r1 := BF.cell 1 _ rfl; have r2 := BF.cell 2 _ rfl; have r3 := BF.cell 3 _ rfl; have r4 := BF.cell 4 _ rfl
      refine bodyPost_ret (v := .tuple #[tmV k1 c1 wb1 lb1 (.slice A1 m1 p1), .int .i64 (lfP T (wayP p p.length) : Int)]) (by simp [results, Try.results19, go_sem, r0, r1, r2, r3, r4]) rfl ?_
      obtain ⟨V, h1, rfl⟩ := HRX.out
      rw [HXX.out] at h1
      refine ⟨_, by rw [HLF.out], h1.go HBE.out HS.out, HBE.out⟩
end Go.Proofs.Ytbpooepbnnbipaa
