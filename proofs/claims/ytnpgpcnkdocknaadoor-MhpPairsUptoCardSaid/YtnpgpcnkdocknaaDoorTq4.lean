/- The walk of the reference's TPairs. -/
import Derived.Test.YtnpgpcnkdocknaaDoorTq1
import Derived.Test.YtnpgpcnkdocknaaDoorGAppStep
namespace Go.Proofs.YtnpgpcnkdocknaaDoor
open Go.RowKit
set_option linter.unusedVariables false
theorem oneP {w : World} {S : Blocks} : ∀ (e : Int × Int) (cs : List Value), Flat encP okPr w S e cs → ∀ u ∈ cs, u.oneCell' = true := by
  rintro ⟨a, b⟩ cs ⟨rfl, _⟩ u hu
  simp [encP] at hu
  rcases hu with rfl | rfl <;> rfl
/-- TPairs' own row in its box -/
structure TpA (w : World) (L : List (Int × Int)) (W : World) (o : Value) : Prop where
  box : Boxed W w.heap.size 24 o
  own : OwnP 30 W w.heap.size Nowhere L o
  ne : ∀ k, o.ownBlock = some k → k ≠ w.heap.size
  bel : Below w.heap.size w W
/-- .. and a statement in another box -/
structure TpD (w : World) (d : Nat) (cs : List Value) (L : List (Int × Int)) (W : World) (o : Value) : Prop where
  a : TpA w L W o
  bx : Blk 0 W d cs
  dB : d ≠ w.heap.size
  nd : ∀ k, o.ownBlock = some k → k ≠ d
section
variable {w W W' : World} {d : Nat} {cs : List Value} {L L' : List (Int × Int)} {o o' : Value}
theorem TpA.below (h : TpA w L W o) (hb : Below W.heap.size W W') : TpA w L W' o :=
  ⟨(hb.block _ h.box.lt).trans h.box, h.own.keep Flat.keeps hb, h.ne, h.bel.trans (hb.mono h.bel.size)⟩
theorem TpD.below (h : TpD w d cs L W o) (hb : Below W.heap.size W W') : TpD w d cs L W' o := ⟨h.a.below hb, h.bx.below hb, h.dB, h.nd⟩
theorem TpD.cross (h : TpD w d cs L W o) (hc : CrA w.heap.size w.heap.size W o L' W' o') : TpD w d cs L' W' o' :=
  ⟨⟨hc.box, hc.own, hc.ne, h.a.bel.trans (hc.but.below (B := w.heap.size) h.a.bel.size (fun k e => e.elim (fun e => by omega) (fun e => (h.a.own.lt k e).1)))⟩, h.bx.but hc.but (fun e => e.elim h.dB (fun e => h.nd _ e rfl)), h.dB, fun k e => by
    rcases hc.row k e with e | e
    · exact h.nd k e
    · have := h.bx.lt; omega⟩
theorem TpD.app {w1 : World} {v' : Value} (h : TpD w d cs L W o) (ho : OwnP 30 w1 w.heap.size Nowhere L' v') (hg : W.grownBy w1 o.ownBlock) (hn : v'.ownBlock = o.ownBlock ∨ v'.ownBlock = some W.heap.size) : TpD w d cs L' (w1.setCell ⟨w.heap.size, 0, none⟩ v') v' :=
  h.cross (CrA.app (CrA.start h.a.box h.a.own h.a.ne) (Below.refl _ _) ho hg (hn.imp id (fun h => ⟨_, h, Nat.le_refl _⟩)) h.a.box.lt)
end
/-- what a call of TPairs owes -/
def TpC (l : List St) : Prop := ∀ (at_ : Nat) (w : World) (S : Blocks) (v : Value), Sub S (Upto w.heap.size) → RdSts w S l v → St.wts l ≤ 1048576 → at_ + labelsL l ≤ 65535 →
  Calls Tryd.prog 8 #[v, .int .i64 at_] w fun e w' => ∃ A c, e = .returned (.slice A (prsI l at_).length c) ∧ RdP w' (Plus Nowhere w.heap.size w'.heap.size) (prsI l at_) (.slice A (prsI l at_).length c) ∧ Below w.heap.size w w'
/-- how far it has come, plainly -/
structure PtA (l : List St) (at_ q : Nat) (L : List (Int × Int)) : Prop where
  mem : ∀ i j, prL l at_ i j = true ↔ InP L i j ∨ prL (l.drop q) (at_ + labelsL (l.take q)) i j = true
  len : L.length ≤ 4 * labelsL (l.take q) * 65536
  ok : ∀ x ∈ L, okPN x
theorem PtA.start (l : List St) (at_ : Nat) : PtA l at_ 0 [] := ⟨fun i j => by rw [List.drop_zero, List.take_zero, labelsL, Nat.add_zero]; exact ⟨.inr, fun h => h.elim (fun h => absurd h inP_nil) id⟩, by simp, by simp⟩
theorem PtA.step {l : List St} {at_ q : Nat} {L C : List (Int × Int)} {s : St} (h : PtA l at_ q L) (hd : l.drop q = s :: l.drop (q + 1)) (ht : l.take (q + 1) = l.take q ++ [s])
    (hC : ∀ i j, InP C i j ↔ prS s (at_ + labelsL (l.take q)) i j = true ∨ mixB (opS s (at_ + labelsL (l.take q))) (rngB (at_ + labelsL (l.take q) + labelsS s) (labelsL (l.drop (q + 1)))) i j = true)
    (hl : C.length ≤ 4 * labelsS s * 65536) (ho : ∀ x ∈ C, okPN x) : PtA l at_ (q + 1) (L ++ C) where
  mem i j := by
    rw [h.mem, hd, InP.app, prL, hC, ht, labelsL_snoc, ← Nat.add_assoc]
    simp only [Bool.or_eq_true]
    constructor
    · rintro (h | (h | h) | h)
      · exact .inl (.inl h)
      · exact .inl (.inr (.inl h))
      · exact .inl (.inr (.inr h))
      · exact .inr h
    · rintro ((h | h | h) | h)
      · exact .inl h
      · exact .inr (.inl (.inl h))
      · exact .inr (.inl (.inr h))
      · exact .inr (.inr h)
  len := by
    rw [List.length_append, ht, labelsL_snoc]
    have := h.len
    omega
  ok x hx := (List.mem_append.1 hx).elim (h.ok x) (ho x)
theorem ok_crs {a b : List Int} (ha : ∀ x ∈ a, 0 ≤ x ∧ x ≤ 65535) (hb : ∀ x ∈ b, 0 ≤ x ∧ x ≤ 65535) : ∀ x ∈ crsI a b, okPN x := fun x hx => by
  obtain ⟨h1, h2⟩ := crsI_mem.1 hx
  have := ha _ h1; have := hb _ h2
  unfold okPN; omega
theorem ok_prs {l : List St} {at_ : Nat} (h : at_ + labelsL l ≤ 65535) : ∀ x ∈ prsI l at_, okPN x := fun x hx => by
  obtain ⟨i, j, rfl, h'⟩ := prsI_mem.1 hx
  have := prL_rng l at_ i j h'
  unfold okPN; dsimp only; omega
theorem ops_in {l : List St} {at_ : Nat} (h : at_ + labelsL l ≤ 65535) : ∀ x ∈ opsI l at_, 0 ≤ x ∧ x ≤ 65535 := fun x hx => by
  obtain ⟨n, rfl, hn⟩ := opsI_mem.1 hx
  have := opL_rng l at_ n hn
  omega
theorem rng_in {a m : Nat} (h : a + m ≤ 65535) : ∀ x ∈ rngI a m, 0 ≤ x ∧ x ≤ 65535 := fun x hx => by
  obtain ⟨n, rfl, hn⟩ := rngI_mem.1 hx
  have := rngB_iff.1 hn
  omega
theorem inI_of {x : Int} (h : 0 ≤ x ∧ x ≤ 65535) : inI x := by unfold inI; omega
theorem in_crs {s : St} {lab b m : Nat} (i j : Nat) : InP (crsI (opsI [s] lab) (rngI b m)) i j ↔ mixB (opS s lab) (rngB b m) i j = true := by
  rw [inP_crs (fun x => opsI_memB x) (fun x => rngI_memB x)]
  rw [show opL [s] lab = opS s lab from funext (opL_one s lab)]
theorem add_at (b off k : Nat) : (⟨b, off, none⟩ : Addr).add k = ⟨b, off + k, none⟩ := by unfold Addr.add; split <;> simp_all
set_option maxHeartbeats 4000000 in
set_option maxRecDepth 100000 in
theorem tpairs_one (l : List St) (h : ∀ k s a c body els, St.mk k s a c body els ∈ l → TpC body ∧ TpC els) : TpC l := by
  intro at_ w S v hS r hwl hat
  obtain ⟨A, cap, rfl, hl, hcm, hby⟩ := r.form
  unfold maxLen at hcm
  obtain ⟨i0, hi, hz0, hz1, hz2⟩ := info_parts infoPr
  have H := Lib.hid h
  have RR := Lib.hid r
  have HS := Lib.hid hS
  have HLT := Lib.hid (labels_take l)
  have A0 := Lib.hid (show TpA w [] (w.alloc (.cells #[.slice none 0 0] 24)) (.slice none 0 0) from ⟨Boxed.new _ _ _, OwnL.nil _ _ _, (fun k e => by simp [Value.ownBlock] at e), (Below.refl _ _).alloc (Nat.le_refl _) _⟩)
  have P0 := Lib.hid (PtA.start l at_)
  clear h r hS
  go_enter Tryd.func8, Tryd.ntmps8
  go_upto_region 2 with (fail)
  generalize (w.alloc (.cells #[.slice none 0 0] 24)) = WB at *
  go_wp2_with fail
  go_loopw [7, 16] (fun la t wr => ∃ (q : Nat) (L : List (Int × Int)) (o : Value), q ≤ l.length ∧ t = .int .i64 q ∧ la = .int .i64 ((at_ : Int) + (labelsL (l.take q) : Int)) ∧ Hid (PtA l at_ q L) ∧ Hid (TpA w L wr o)) (fun _ t _ => l.length - (intOf t).toNat)
  case atStart => exact ⟨0, _, _, by omega, rfl, (by rw [List.take_zero, labelsL]; simp), P0, A0⟩
  case round =>
    clear A0 P0
    obtain ⟨q, L, o, hq, rfl, rfl, HP, HA⟩ := hrel
    have hbel := HA.out.bel
    by_cases hlt : q < l.length
    · skip
      have hwr := hbel.size
      obtain ⟨b0, off, cs, rfl, hb, hcl, hcell, hrd⟩ := RR.out.at_ hlt
      have hbw : b0 < w.heap.size := HS.out _ hb
      have hb0 : b0 < wr.heap.size := by omega
      have hmem := List.getElem_mem hlt
      have htk : l.take (q + 1) = l.take q ++ [l[q]] := by rw [List.take_succ_eq_append_getElem hlt]
      have hdr : l.drop q = l[q] :: l.drop (q + 1) := List.drop_eq_getElem_cons hlt
      have hwq := wts_take l hlt
      have hlt2 := HLT.out (q + 1)
      have hlall : labelsL (l.take q) + labelsL (l.drop q) = labelsL l := by rw [← labelsL_app, List.take_append_drop]
      obtain ⟨st, hst⟩ : ∃ st, l[q] = st := ⟨_, rfl⟩
      rw [hst] at hrd hmem htk hwq hdr
      have HRD := Lib.hid hrd
      obtain ⟨k, s, a, c, body, els⟩ := st
      obtain ⟨k1, n1, s1, A1, m1, p1, k2, n2, s2, A2, m2, p2, A3, p3, A4, p4, rfl, hk, hs, ra, rb, rv, rv'⟩ := hrd.cells
      have e0 : wr.cell? ⟨b0, off + q * 12, none⟩ = some _ := (hbel.cell (p := ⟨b0, off + q * 12, none⟩) hbw).trans (hcell 0 _ rfl)
      have e1 : wr.cell? ⟨b0, off + q * 12 + 1, none⟩ = some _ := (hbel.cell (p := ⟨b0, off + q * 12 + 1, none⟩) hbw).trans (hcell 1 _ rfl); have e2 : wr.cell? ⟨b0, off + q * 12 + 2, none⟩ = some _ := (hbel.cell (p := ⟨b0, off + q * 12 + 2, none⟩) hbw).trans (hcell 2 _ rfl); have e3 : wr.cell? ⟨b0, off + q * 12 + 3, none⟩ = some _ := (hbel.cell (p := ⟨b0, off + q * 12 + 3, none⟩) hbw).trans (hcell 3 _ rfl); have e4 : wr.cell? ⟨b0, off + q * 12 + 4, none⟩ = some _ := (hbel.cell (p := ⟨b0, off + q * 12 + 4, none⟩) hbw).trans (hcell 4 _ rfl); have e5 : wr.cell? ⟨b0, off + q * 12 + 5, none⟩ = some _ := (hbel.cell (p := ⟨b0, off + q * 12 + 5, none⟩) hbw).trans (hcell 5 _ rfl); have e6 : wr.cell? ⟨b0, off + q * 12 + 6, none⟩ = some _ := (hbel.cell (p := ⟨b0, off + q * 12 + 6, none⟩) hbw).trans (hcell 6 _ rfl); have e7 : wr.cell? ⟨b0, off + q * 12 + 7, none⟩ = some _ := (hbel.cell (p := ⟨b0, off + q * 12 + 7, none⟩) hbw).trans (hcell 7 _ rfl); have e8 : wr.cell? ⟨b0, off + q * 12 + 8, none⟩ = some _ := (hbel.cell (p := ⟨b0, off + q * 12 + 8, none⟩) hbw).trans (hcell 8 _ rfl); have e9 : wr.cell? ⟨b0, off + q * 12 + 9, none⟩ = some _ := (hbel.cell (p := ⟨b0, off + q * 12 + 9, none⟩) hbw).trans (hcell 9 _ rfl); have e10 : wr.cell? ⟨b0, off + q * 12 + 10, none⟩ = some _ := (hbel.cell (p := ⟨b0, off + q * 12 + 10, none⟩) hbw).trans (hcell 10 _ rfl); have e11 : wr.cell? ⟨b0, off + q * 12 + 11, none⟩ = some _ := (hbel.cell (p := ⟨b0, off + q * 12 + 11, none⟩) hbw).trans (hcell 11 _ rfl)
      rw [htk, labelsL_snoc] at hlt2
      rw [hdr, labelsL] at hlall
      have HTK := Lib.hid htk
      have HDR := Lib.hid hdr
      have HLS := Lib.hid (show labelsL (l.take (q + 1)) = labelsL (l.take q) + labelsS (.mk k s a c body els) by rw [htk, labelsL_snoc])
      rw [St.wt] at hwq
      have HIB := Lib.hid (H.out _ _ _ _ _ _ hmem)
      have hx3 : St.wts body ≤ 1048576 := by omega
      have hx4 : St.wts els ≤ 1048576 := by omega
      have hx5 : St.wts [.mk k s a c body els] ≤ 1048576 := by simp only [St.wts, St.wt]; omega
      have HWD := Lib.hid (show St.wts (l.drop (q + 1)) ≤ 1048576 from Nat.le_trans (wts_drop l (q + 1)) hwl)
      have hb1 : Below wr.heap.size wr (wr.alloc (.cells #[.int .i64 k, .string s, .int .i64 k1, .int .i64 n1, .string s1, .slice A1 m1 p1, .int .i64 k2, .int .i64 n2, .string s2, .slice A2 m2 p2, .slice A3 body.length p3, .slice A4 els.length p4] 39)) := (Below.refl _ _).alloc (Nat.le_refl _) _
      have hsu : Sub S (Upto wr.heap.size) := HS.out.trans (Sub.upto hwr)
      have BX := Lib.hid (Blk.made wr [.int .i64 k, .string s, .int .i64 k1, .int .i64 n1, .string s1, .slice A1 m1 p1, .int .i64 k2, .int .i64 n2, .string s2, .slice A2 m2 p2, .slice A3 body.length p3, .slice A4 els.length p4] 39 (base := 0) (Nat.zero_le _))
      have HSW := Lib.hid (show Sub S (Upto ((wr.alloc (.cells #[.int .i64 k, .string s, .int .i64 k1, .int .i64 n1, .string s1, .slice A1 m1 p1, .int .i64 k2, .int .i64 n2, .string s2, .slice A2 m2 p2, .slice A3 body.length p3, .slice A4 els.length p4] 39))).heap.size) from hsu.trans (Sub.upto hb1.size))
      have RV := Lib.hid rv
      have RV2 := Lib.hid rv'
      have HLO := Lib.hid (llabelsOf_one (w := (wr.alloc (.cells #[.int .i64 k, .string s, .int .i64 k1, .int .i64 n1, .string s1, .slice A1 m1 p1, .int .i64 k2, .int .i64 n2, .string s2, .slice A2 m2 p2, .slice A3 body.length p3, .slice A4 els.length p4] 39))) HRD.out (same_of_below (hbel.trans (hb1.mono hwr)) HS.out) HSW.out hcl hx5 rfl)
      have KA := Lib.hid (HA.out.below hb1)
      have hwB : w.heap.size < wr.heap.size := HA.out.box.lt
      have HND := Lib.hid (show ∀ k, o.ownBlock = some k → k ≠ wr.heap.size from fun k e => by have := (HA.out.own.lt k e).2; omega)
      have HLL0 := Lib.hid (show L.length ≤ 17179869184 from by have := HP.out.len; have := HLT.out q; omega)
      go_upto_region 7 with (fail)
      clear e0 e1 e2 e3 e4 e5 e6 e7 e8 e9 e10 e11 hcell hrd hcl ra rb rv rv' hb1 hsu hmem hst htk hdr hbel HRD HA
      generalize (wr.alloc (.cells #[.int .i64 k, .string s, .int .i64 k1, .int .i64 n1, .string s1, .slice A1 m1 p1, .int .i64 k2, .int .i64 n2, .string s2, .slice A2 m2 p2, .slice A3 body.length p3, .slice A4 els.length p4] 39)) = W at *
      obtain ⟨d, hd⟩ : ∃ d, d = wr.heap.size := ⟨_, rfl⟩
      rw [← hd] at BX HND
      rw [← hd]
      have hdB : d ≠ w.heap.size := by omega
      have K0 := Lib.hid (show TpD w d _ L W o from ⟨KA.out, BX.out, hdB, HND.out⟩)
      have c0 := BX.out.cell 0 _ rfl; have c1 := BX.out.cell 1 _ rfl; have c2 := BX.out.cell 2 _ rfl; have c3 := BX.out.cell 3 _ rfl; have c4 := BX.out.cell 4 _ rfl; have c5 := BX.out.cell 5 _ rfl; have c6 := BX.out.cell 6 _ rfl; have c7 := BX.out.cell 7 _ rfl; have c8 := BX.out.cell 8 _ rfl; have c9 := BX.out.cell 9 _ rfl; have c10 := BX.out.cell 10 _ rfl; have c11 := BX.out.cell 11 _ rfl
      clear hd hb0 KA
      obtain ⟨lab, hlab⟩ : ∃ lab, lab = at_ + labelsL (l.take q) := ⟨_, rfl⟩
      rw [show (at_ : Int) + (labelsL (l.take q) : Int) = (lab : Int) by omega]
      have HLAB := Lib.hid hlab
      rw [labelsL_one] at HLO
      obtain ⟨n, hn⟩ : ∃ n, n = labelsS (.mk k s a c body els) := ⟨_, rfl⟩
      rw [← hn] at HLO hlt2 HLS hlall
      obtain ⟨rest, hre⟩ : ∃ rest, rest = labelsL (l.drop (q + 1)) := ⟨_, rfl⟩
      rw [← hre] at hlall
      have HRE := Lib.hid hre
      have HNE := Lib.hid hn
      have hlabN : lab + n + rest ≤ 65535 := by omega
      clear hn hlab hwq hlt2 hlall hre
      go_wp2_with fail
      refine HLO.out.mono ?_
      rintro e w1 ⟨rfl, hb1⟩
      have K1 := Lib.hid (K0.out.below hb1)
      clear HLO hb1 BX K0 c0 c1 c2 c3 c4 c5 c6 c7 c8 c9 c10 c11
      -- the open ones of this statement
      have RL1 := Lib.hid (RR.out.go RdSt.keeps K1.out.a.bel HS.out (Sub.refl _))
      have hcq : q < cap := by omega
      have RS1 := Lib.hid (show RdSts w1 S [St.mk k s a c body els] (.slice (some ⟨b0, off + q * 12, none⟩) 1 (cap - q)) from by
        have h1 := RdL.take (RdL.drop (k := q) RL1.out (by omega)) (m := 1) (by rw [List.length_drop]; omega)
        rw [HDR.out, Option.map_some, add_at, List.take_succ_cons, List.take_zero] at h1
        exact h1)
      have HC1 := Lib.hid (topen_any [St.mk k s a c body els] lab w1 S _ (HS.out.trans (Sub.upto K1.out.a.bel.size)) RS1.out hx5 (by rw [labelsL_one, ← HNE.out]; omega))
      go_wp2_with fail
      refine HC1.out.mono ?_
      rintro e w2 ⟨A5, c5, rfl, hr2, hb2⟩
      have K2 := Lib.hid (K1.out.below hb2)
      have hz2' := hb2.size
      have RM2 := Lib.hid hr2
      have HOL := Lib.hid (opsI_len [St.mk k s a c body els] lab)
      rw [labelsL_one, ← HNE.out] at HOL
      have RLD := Lib.hid (RR.out.go RdSt.keeps K2.out.a.bel HS.out (Sub.refl _))
      have HSW2 := Lib.hid (HS.out.trans (Sub.upto K2.out.a.bel.size))
      clear hr2 hb2 HC1 RS1 RL1
      have hb7 : lab + n ≤ 1048577 := by omega
      have HCA := Lib.hid (show (lab : Int) + (n : Int) = ((lab + n : Nat) : Int) by omega)
      have hBw1 : w.heap.size < w1.heap.size := K1.out.a.box.lt
      have how : ∀ j, o.ownBlock = some j → j < w1.heap.size := fun j e => (K1.out.a.own.lt j e).2
      -- from here on, whatever the rest's slice: labels, then the closure
      have HGO := Lib.hid (show ∀ VS, RdSts w2 S (l.drop (q + 1)) VS → Calls Tryd.prog 4 #[VS] w2 fun e w' => e = .returned (.int .i64 (rest : Int)) ∧ Below w2.heap.size w2 w' from fun VS h => by
        have h2 := (labs_all _ (l.drop (q + 1)) (Nat.le_refl _)).2 w2 S VS HSW2.out h HWD.out
        rw [← HRE.out] at h2
        exact h2)
      have HTL := Lib.hid (show ∀ w3, Below w2.heap.size w2 w3 → Calls Tryd.prog 16 #[.int .i64 ((lab + n : Nat) : Int), .int .i64 (rest : Int)] w3 fun e w4 => ∃ A7 c7, e = .returned (.slice A7 rest c7) ∧ RdI w4 (Plus Nowhere w3.heap.size w4.heap.size) (rngI (lab + n) rest) (.slice A7 rest c7) ∧ Below w3.heap.size w3 w4 from fun w3 _ => tlab_any (lab + n) rest (by omega) w3)
      have HCR := Lib.hid (show ∀ w3 w4 A7 c7, Below w2.heap.size w2 w3 → Below w3.heap.size w3 w4 → RdI w4 (Plus Nowhere w3.heap.size w4.heap.size) (rngI (lab + n) rest) (.slice A7 rest c7) →
        Calls Tryd.prog 15 #[.slice A5 (opsI [St.mk k s a c body els] lab).length c5, .slice A7 rest c7, .pointer (some ⟨w.heap.size, 0, none⟩)] w4 fun e w5 => e = .returned (.tuple #[]) ∧ ∃ o1, TpD w d [.int .i64 k, .string s, .int .i64 k1, .int .i64 n1, .string s1, .slice A1 m1 p1, .int .i64 k2, .int .i64 n2, .string s2, .slice A2 m2 p2, .slice A3 body.length p3, .slice A4 els.length p4] (L ++ crsI (opsI [St.mk k s a c body els] lab) (rngI (lab + n) rest)) w5 o1 ∧
          RdI w5 (Plus Nowhere w1.heap.size w2.heap.size) (opsI [St.mk k s a c body els] lab) (.slice A5 (opsI [St.mk k s a c body els] lab).length c5) ∧ (∀ k, o1.ownBlock = some k → k < w1.heap.size ∨ w2.heap.size ≤ k) ∧ w2.heap.size ≤ w5.heap.size from by
        intro w3 w4 A7 c7 hb3 hb4 hr4
        have hz3 := hb3.size
        have hz4 := hb4.size
        have K4 := (K2.out.below hb3).below hb4
        have hwl := K4.a.bel.size
        have RM4 := (RM2.out.go Flat.keeps hb3 plus_upto (Sub.refl _)).go Flat.keeps hb4 (plus_upto.trans (Sub.upto hz3)) (Sub.refl _)
        have hx1 : ∀ k, Plus Nowhere w1.heap.size w2.heap.size k → ¬ XBo w.heap.size o k := fun k hk hx => hk.elim (fun h => h.elim) (fun h => by have := h.1; exact hx.elim (fun e => by omega) (fun e => by have := how k e; omega))
        refine (cross_any w.heap.size w.heap.size (opsI [St.mk k s a c body els] lab) (rngI (lab + n) rest) L w4 o _ _ (Plus Nowhere w1.heap.size w2.heap.size) (Plus Nowhere w3.heap.size w4.heap.size) hwl (CrA.start K4.a.box K4.a.own K4.a.ne)
          (plus_upto.trans (Sub.upto (Nat.le_trans hz3 hz4))) plus_upto hx1
          (fun k hk hx => hk.elim (fun h => h.elim) (fun h => by have := h.1; exact hx.elim (fun e => by omega) (fun e => by have := how k e; omega)))
          RM4 hr4 (by
            rw [rngI_len]
            have h1 := HOL.out
            have h2 := HLL0.out
            have h3 : (opsI [St.mk k s a c body els] lab).length * rest ≤ 65535 * 65535 := Nat.mul_le_mul (by omega) (by omega)
            omega) (fun x hx => inI_of (ops_in (by rw [labelsL_one, ← HNE.out]; omega) x hx)) (fun x hx => inI_of (rng_in (by omega) x hx))).mono ?_
        rintro e w5 ⟨rfl, o1, hc⟩
        refine ⟨rfl, o1, K4.cross hc, RM4.keep Flat.keeps (Sub.refl _) (hc.but.same (plus_upto.trans (Sub.upto (Nat.le_trans hz3 hz4))) hx1), fun k e => ?_, Nat.le_trans (Nat.le_trans hz3 hz4) hc.but.size⟩
        rcases hc.row k e with e | e
        · exact .inl (how k e)
        · exact .inr (by omega))
      go_upto_region 9 with (fail)
      go_cut [42] (fun u wx => u = .tuple #[] ∧ ∃ o1, Hid (TpD w d [.int .i64 k, .string s, .int .i64 k1, .int .i64 n1, .string s1, .slice A1 m1 p1, .int .i64 k2, .int .i64 n2, .string s2, .slice A2 m2 p2, .slice A3 body.length p3, .slice A4 els.length p4] (L ++ crsI (opsI [St.mk k s a c body els] lab) (rngI (lab + n) rest)) wx o1) ∧
          Hid (RdI wx (Plus Nowhere w1.heap.size w2.heap.size) (opsI [St.mk k s a c body els] lab) (.slice A5 (opsI [St.mk k s a c body els] lab).length c5)) ∧ Hid (∀ k, o1.ownBlock = some k → k < w1.heap.size ∨ w2.heap.size ≤ k) ∧ w2.heap.size ≤ wx.heap.size)
      case first =>
        have h1 := RdL.drop (k := q + 1) RLD.out (by omega)
        have hw5 : wrap64 ((lab : Int) + (n : Int)) = (lab : Int) + (n : Int) := w64_2 hb7
        have hw6 : IntKind.i64.wrap ((lab : Int) + (n : Int)) = (lab : Int) + (n : Int) := i64_2 hb7
        rcases Nat.lt_or_ge (q + 1) cap with hcq | hcq
        · rw [Option.map_some, add_at] at h1
          have HL2 := Lib.hid (HGO.out _ h1)
          have hne : ¬ cap - (q + 1) = 0 := by clear hw5 hw6; omega
          clear h1
          go_wp2_with fail
          refine HL2.out.mono ?_
          rintro e w3 ⟨rfl, hb3⟩
          go_wp2_with fail
          rw [HCA.out]
          refine (HTL.out w3 hb3).mono ?_
          rintro e w4 ⟨A7, c7, rfl, hr4, hb4⟩
          have HC9 := Lib.hid (HCR.out w3 w4 A7 c7 hb3 hb4 hr4)
          clear hr4 hb4 hb3
          go_wp2_with fail
          refine HC9.out.mono ?_
          rintro e w5 ⟨rfl, o1, h1, h2, h3, h4⟩
          have H1 := Lib.hid h1
          have H2 := Lib.hid h2
          have H3 := Lib.hid h3
          clear h1 h2 h3
          go_wp2_with fail
          go_meet
          exact ⟨rfl, o1, H1, H2, H3, h4⟩
        · have hce : cap = q + 1 := by clear hw5 hw6; omega
          have hll : l.length = q + 1 := by clear hw5 hw6; omega
          have hd0 : l.drop (q + 1) = [] := List.drop_eq_nil_of_le (Nat.le_of_eq hll)
          have hz0 : l.length - (q + 1) = 0 := by rw [hll]; exact Nat.sub_self _
          rw [hd0, hz0] at h1
          have HL2 := Lib.hid (HGO.out (.slice (some ⟨b0, off, none⟩) 0 0) (by rw [hd0]; exact h1.any (Nat.zero_le _)))
          clear h1 hd0 hz0 hll
          subst hce
          go_wp2_with fail
          refine HL2.out.mono ?_
          rintro e w3 ⟨rfl, hb3⟩
          go_wp2_with fail
          rw [HCA.out]
          refine (HTL.out w3 hb3).mono ?_
          rintro e w4 ⟨A7, c7, rfl, hr4, hb4⟩
          have HC9 := Lib.hid (HCR.out w3 w4 A7 c7 hb3 hb4 hr4)
          clear hr4 hb4 hb3
          go_wp2_with fail
          refine HC9.out.mono ?_
          rintro e w5 ⟨rfl, o1, h1, h2, h3, h4⟩
          have H1 := Lib.hid h1
          have H2 := Lib.hid h2
          have H3 := Lib.hid h3
          clear h1 h2 h3
          go_wp2_with fail
          go_meet
          exact ⟨rfl, o1, H1, H2, H3, h4⟩
      case rest =>
        obtain ⟨rfl, o1, K5, RM5, HOW5, hz5⟩ := hcut
        obtain ⟨w5, hw5⟩ : ∃ w5 : World, w5 = wc := ⟨_, rfl⟩
        subst hw5
        obtain ⟨M, hM⟩ : ∃ M, M = opsI [St.mk k s a c body els] lab := ⟨_, rfl⟩
        rw [← hM] at K5 RM5 HOL ⊢
        have HM := Lib.hid hM
        obtain ⟨L1, hL1⟩ : ∃ L1, L1 = L ++ crsI M (rngI (lab + n) rest) := ⟨_, rfl⟩
        rw [← hL1] at K5
        have HL1 := Lib.hid hL1
        have HC0 := Lib.hid (show (crsI M (rngI (lab + n) rest)).length ≤ n * 65536 by rw [crsI_len, rngI_len]; exact Nat.mul_le_mul HOL.out (by omega))
        have HLL := Lib.hid (show L1.length ≤ 25769803776 by have h1 := HC0.out; have h2 := HLL0.out; rw [hL1, List.length_append]; omega)
        have HOK0 := Lib.hid (show ∀ x ∈ crsI M (rngI (lab + n) rest), okPN x from ok_crs (by rw [hM]; exact ops_in (by rw [labelsL_one, ← HNE.out]; omega)) (rng_in (by omega)))
        have HIN0 := Lib.hid (show ∀ i j, InP (crsI M (rngI (lab + n) rest)) i j ↔ mixB (opS (.mk k s a c body els) lab) (rngB (lab + n) rest) i j = true from fun i j => by rw [hM]; exact in_crs i j)
        have HST := Lib.hid (show ∀ C9, (∀ i j, InP C9 i j ↔ prS (.mk k s a c body els) lab i j = true ∨ mixB (opS (.mk k s a c body els) lab) (rngB (lab + n) rest) i j = true) → C9.length ≤ 4 * n * 65536 → (∀ x ∈ C9, okPN x) → PtA l at_ (q + 1) (L ++ C9) from fun C9 h1 h2 h3 =>
          HP.out.step HDR.out HTK.out (by rw [← HLAB.out, ← HNE.out, ← HRE.out]; exact h1) (by rw [← HNE.out]; exact h2) h3)
        clear hM hL1 HGO HTL HCR K1 K2 RM2 RLD HSW2
        have c0 := K5.out.bx.cell 0 _ rfl
        by_cases h4 : k = 4
        · subst h4
          have hbn : labelsL body = n := by rw [HNE.out, labels_one (.inl rfl)]
          have HTB := Lib.hid (HIB.out.1 lab)
          have c10 := K5.out.bx.cell 10 _ rfl
          have hbd : Below w5.heap.size w5 w5.drew := (Below.refl _ _).drew
          have KD := Lib.hid (K5.out.below hbd)
          have HC := Lib.hid (HTB.out w5.drew S _ (HS.out.trans (Sub.upto KD.out.a.bel.size)) (RV.out.go RdSt.keeps KD.out.a.bel HS.out (Sub.refl _)) hx3 (by omega))
          have cB := KD.out.a.box.cell
          have d10 := KD.out.bx.cell 10 _ rfl
          have d0 := K5.out.bx.cell 0 _ rfl
          have HPL := Lib.hid (prsI_len body lab (by omega))
          clear hbd HTB c10 K5 c0
          go_upto_region 13 with (fail)
          clear d0
          refine wp_region_pre 5 (S := (fun wx => wx.cell? ⟨w.heap.size, 0, none⟩ = some o1 ∧ wx.cell? ⟨d, 10, none⟩ = some (.slice A3 body.length p3))) (by kernel_rfl) (by kernel_rfl) ⟨cB, d10⟩ (fun hHeld => ?_)
          simp only [List.take_succ_cons, List.take_zero]
          refine wpAnyH_take_at (i := 0) (v := ?_) (some 60) rfl rfl (by kernel_rfl) (by kernel_rfl) (by kernel_rfl) (fun _ _ _ h => h) (Or.inl ⟨by rfl, ?_⟩) (by assumption) ?_
          rotate_left
          · (intro w hSw; (try dsimp only at hSw); go_simp; (try with_reducible rfl))
          (try simp only [Act.put, List.setIfInBounds_toArray, List.set_cons_zero, List.set_cons_succ])
          refine wpAnyH_take_at (i := 1) (v := ?_) (some 61) rfl rfl (by kernel_rfl) (by kernel_rfl) (by kernel_rfl) (fun _ _ _ h => h) (Or.inl ⟨by rfl, ?_⟩) (by assumption) ?_
          rotate_left
          · (intro w hSw; (try dsimp only at hSw); go_simp; (try with_reducible rfl))
          (try simp only [Act.put, List.setIfInBounds_toArray, List.set_cons_zero, List.set_cons_succ])
          refine wpAnyH_take_at (i := 2) (v := ?_) (some 62) rfl rfl (by kernel_rfl) (by kernel_rfl) (by kernel_rfl) (fun _ _ _ h => h) (Or.inl ⟨by rfl, ?_⟩) (by assumption) ?_
          rotate_left
          · (intro w hSw; (try dsimp only at hSw); go_simp; (try with_reducible rfl))
          (try simp only [Act.put, List.setIfInBounds_toArray, List.set_cons_zero, List.set_cons_succ])
          refine wpAnyH_take_at (i := 3) (v := ?_) (some 63) rfl rfl (by kernel_rfl) (by kernel_rfl) (by kernel_rfl) (fun _ _ _ h => h) (Or.inl ⟨by rfl, ?_⟩) (by assumption) ?_
          rotate_left
          · (intro w hSw; (try dsimp only at hSw); go_simp; (try with_reducible rfl))
          (try simp only [Act.put, List.setIfInBounds_toArray, List.set_cons_zero, List.set_cons_succ])
          refine wpAnyH_ready (rs := [4]) (by kernel_rfl) (by simp) ?_
          refine AllReadyH.cons rfl (fun K hK => ?_) AllReadyH.nil
          go_simp
          refine HC.out.mono ?_
          rintro e w8 ⟨A8, c8, rfl, hr8, hb8⟩
          have K8 := Lib.hid (KD.out.below hb8)
          refine hK.out _ _ ?_ (fun hHeld => ?_)
          · exact ⟨K8.out.a.box.cell, K8.out.bx.cell 10 _ rfl⟩
          clear hK K
          (try simp only [Act.put, List.setIfInBounds_toArray, List.set_cons_zero, List.set_cons_succ])
          refine wpAnyH_done (by kernel_rfl) ?_ _
          unfold QPre
          simp only [List.drop_succ_cons, List.drop_zero]
          have HR8 := Lib.hid hr8
          clear hr8 hb8 HC KD cB d10
          have fB := K8.out.a.box.frozen
          obtain ⟨L1p, hLp⟩ : ∃ X, X = L1 ++ prsI body lab := ⟨_, rfl⟩
          have HLp := Lib.hid hLp
          clear hLp
          go_wp2_with (at_builtin; refine wpList_append_list rfl _ _ 24 rfl i0 _ Tryd.underlying24 hi hz0 hz1 hz2 rfl (by decide) Flat.keeps K8.out.a.own (HR8.out.bare Nowhere) rfl rfl (Sub.nowhere _) (Sub.nowhere _) not_nowhere oneP ?c3 ?c4 ?c5 ?_)
          case c3 => have h9 := HLL.out; have h8 := HPL.out; unfold maxLen; omega
          case c4 => have h9 := HLL.out; have h8 := HPL.out; omega
          try (case c5 => exact K8.out.a.bel.size)
          intro v9 w9 ho9 hg9 hk9
          rw [← HLp.out] at ho9
          obtain ⟨A9, c9, rfl⟩ := ho9.form
          have K9 := Lib.hid (K8.out.app ho9 hg9 hk9)
          have bx9 := K8.out.a.box.kept hg9 (fun e => K8.out.a.ne _ e.symm rfl)
          have cB9 := bx9.cell
          have fB9 := bx9.frozen
          clear ho9 hg9 hk9 fB HR8 K8
          go_upto_region 14 with (fail)
          clear cB9 fB9 bx9
          generalize w9.setCell ⟨w.heap.size, 0, none⟩ (.slice A9 L1p.length c9) = W9b at *
          have c0 := K9.out.bx.cell 0 _ rfl
          have HA9 := Lib.hid K9.out.a
          have HPT9 := Lib.hid (show PtA l at_ (q + 1) L1p by
            rw [HLp.out, HL1.out, List.append_assoc]
            refine HST.out (crsI M (rngI (lab + n) rest) ++ prsI body lab) (fun i j => ?_) ?_ (fun x hx => (List.mem_append.1 hx).elim (HOK0.out x) (ok_prs (by omega) x))
            · rw [InP.app, HIN0.out, inP_prs, prS_one (.inl rfl)]
              exact Or.comm
            · rw [List.length_append]
              have h1 := HC0.out
              have h2 := HPL.out
              omega)
          clear K9 HLp HPL
          have hb9 : lab + n ≤ 1048577 := by omega
          have hw1 : wrap64 ((lab : Int) + (n : Int)) = (lab : Int) + (n : Int) := w64_2 hb9
          have hw2 : IntKind.i64.wrap ((lab : Int) + (n : Int)) = (lab : Int) + (n : Int) := i64_2 hb9
          go_wp2_with fail
          go_roundw
          all_goals clear hw1 hw2
          case rel => exact ⟨q + 1, _, _, by omega, by go_num, by rw [HLS.out]; congr 1; have := HLAB.out; omega, HPT9, HA9⟩
          case measure => simp [intOf]; omega
        by_cases h5 : k = 5
        · subst h5
          have hbn : labelsL body = n := by rw [HNE.out, labels_one (.inr (.inl rfl))]
          have HTB := Lib.hid (HIB.out.1 lab)
          have c10 := K5.out.bx.cell 10 _ rfl
          have hbd : Below w5.heap.size w5 w5.drew := (Below.refl _ _).drew
          have KD := Lib.hid (K5.out.below hbd)
          have HC := Lib.hid (HTB.out w5.drew S _ (HS.out.trans (Sub.upto KD.out.a.bel.size)) (RV.out.go RdSt.keeps KD.out.a.bel HS.out (Sub.refl _)) hx3 (by omega))
          have cB := KD.out.a.box.cell
          have d10 := KD.out.bx.cell 10 _ rfl
          have d0 := K5.out.bx.cell 0 _ rfl
          have HPL := Lib.hid (prsI_len body lab (by omega))
          clear hbd HTB c10 K5 c0
          go_upto_region 13 with (fail)
          clear d0
          refine wp_region_pre 5 (S := (fun wx => wx.cell? ⟨w.heap.size, 0, none⟩ = some o1 ∧ wx.cell? ⟨d, 10, none⟩ = some (.slice A3 body.length p3))) (by kernel_rfl) (by kernel_rfl) ⟨cB, d10⟩ (fun hHeld => ?_)
          simp only [List.take_succ_cons, List.take_zero]
          refine wpAnyH_take_at (i := 0) (v := ?_) (some 60) rfl rfl (by kernel_rfl) (by kernel_rfl) (by kernel_rfl) (fun _ _ _ h => h) (Or.inl ⟨by rfl, ?_⟩) (by assumption) ?_
          rotate_left
          · (intro w hSw; (try dsimp only at hSw); go_simp; (try with_reducible rfl))
          (try simp only [Act.put, List.setIfInBounds_toArray, List.set_cons_zero, List.set_cons_succ])
          refine wpAnyH_take_at (i := 1) (v := ?_) (some 61) rfl rfl (by kernel_rfl) (by kernel_rfl) (by kernel_rfl) (fun _ _ _ h => h) (Or.inl ⟨by rfl, ?_⟩) (by assumption) ?_
          rotate_left
          · (intro w hSw; (try dsimp only at hSw); go_simp; (try with_reducible rfl))
          (try simp only [Act.put, List.setIfInBounds_toArray, List.set_cons_zero, List.set_cons_succ])
          refine wpAnyH_take_at (i := 2) (v := ?_) (some 62) rfl rfl (by kernel_rfl) (by kernel_rfl) (by kernel_rfl) (fun _ _ _ h => h) (Or.inl ⟨by rfl, ?_⟩) (by assumption) ?_
          rotate_left
          · (intro w hSw; (try dsimp only at hSw); go_simp; (try with_reducible rfl))
          (try simp only [Act.put, List.setIfInBounds_toArray, List.set_cons_zero, List.set_cons_succ])
          refine wpAnyH_take_at (i := 3) (v := ?_) (some 63) rfl rfl (by kernel_rfl) (by kernel_rfl) (by kernel_rfl) (fun _ _ _ h => h) (Or.inl ⟨by rfl, ?_⟩) (by assumption) ?_
          rotate_left
          · (intro w hSw; (try dsimp only at hSw); go_simp; (try with_reducible rfl))
          (try simp only [Act.put, List.setIfInBounds_toArray, List.set_cons_zero, List.set_cons_succ])
          refine wpAnyH_ready (rs := [4]) (by kernel_rfl) (by simp) ?_
          refine AllReadyH.cons rfl (fun K hK => ?_) AllReadyH.nil
          go_simp
          refine HC.out.mono ?_
          rintro e w8 ⟨A8, c8, rfl, hr8, hb8⟩
          have K8 := Lib.hid (KD.out.below hb8)
          refine hK.out _ _ ?_ (fun hHeld => ?_)
          · exact ⟨K8.out.a.box.cell, K8.out.bx.cell 10 _ rfl⟩
          clear hK K
          (try simp only [Act.put, List.setIfInBounds_toArray, List.set_cons_zero, List.set_cons_succ])
          refine wpAnyH_done (by kernel_rfl) ?_ _
          unfold QPre
          simp only [List.drop_succ_cons, List.drop_zero]
          have HR8 := Lib.hid hr8
          clear hr8 hb8 HC KD cB d10
          have fB := K8.out.a.box.frozen
          obtain ⟨L1p, hLp⟩ : ∃ X, X = L1 ++ prsI body lab := ⟨_, rfl⟩
          have HLp := Lib.hid hLp
          clear hLp
          go_wp2_with (at_builtin; refine wpList_append_list rfl _ _ 24 rfl i0 _ Tryd.underlying24 hi hz0 hz1 hz2 rfl (by decide) Flat.keeps K8.out.a.own (HR8.out.bare Nowhere) rfl rfl (Sub.nowhere _) (Sub.nowhere _) not_nowhere oneP ?c3 ?c4 ?c5 ?_)
          case c3 => have h9 := HLL.out; have h8 := HPL.out; unfold maxLen; omega
          case c4 => have h9 := HLL.out; have h8 := HPL.out; omega
          try (case c5 => exact K8.out.a.bel.size)
          intro v9 w9 ho9 hg9 hk9
          rw [← HLp.out] at ho9
          obtain ⟨A9, c9, rfl⟩ := ho9.form
          have K9 := Lib.hid (K8.out.app ho9 hg9 hk9)
          have bx9 := K8.out.a.box.kept hg9 (fun e => K8.out.a.ne _ e.symm rfl)
          have cB9 := bx9.cell
          have fB9 := bx9.frozen
          clear ho9 hg9 hk9 fB HR8 K8
          go_upto_region 14 with (fail)
          clear cB9 fB9 bx9
          generalize w9.setCell ⟨w.heap.size, 0, none⟩ (.slice A9 L1p.length c9) = W9b at *
          have c0 := K9.out.bx.cell 0 _ rfl
          have HA9 := Lib.hid K9.out.a
          have HPT9 := Lib.hid (show PtA l at_ (q + 1) L1p by
            rw [HLp.out, HL1.out, List.append_assoc]
            refine HST.out (crsI M (rngI (lab + n) rest) ++ prsI body lab) (fun i j => ?_) ?_ (fun x hx => (List.mem_append.1 hx).elim (HOK0.out x) (ok_prs (by omega) x))
            · rw [InP.app, HIN0.out, inP_prs, prS_one (.inr rfl)]
              exact Or.comm
            · rw [List.length_append]
              have h1 := HC0.out
              have h2 := HPL.out
              omega)
          clear K9 HLp HPL
          have hb9 : lab + n ≤ 1048577 := by omega
          have hw1 : wrap64 ((lab : Int) + (n : Int)) = (lab : Int) + (n : Int) := w64_2 hb9
          have hw2 : IntKind.i64.wrap ((lab : Int) + (n : Int)) = (lab : Int) + (n : Int) := i64_2 hb9
          go_wp2_with fail
          go_roundw
          all_goals clear hw1 hw2
          case rel => exact ⟨q + 1, _, _, by omega, by go_num, by rw [HLS.out]; congr 1; have := HLAB.out; omega, HPT9, HA9⟩
          case measure => simp [intOf]; omega
        by_cases h6 : k = 6
        · subst h6
          have hbn : labelsL body + labelsL els = n := by rw [HNE.out, labels_if]
          have HTB := Lib.hid (HIB.out.1 lab)
          have c10 := K5.out.bx.cell 10 _ rfl
          have hbd : Below w5.heap.size w5 w5.drew := (Below.refl _ _).drew
          have KD := Lib.hid (K5.out.below hbd)
          have HC := Lib.hid (HTB.out w5.drew S _ (HS.out.trans (Sub.upto KD.out.a.bel.size)) (RV.out.go RdSt.keeps KD.out.a.bel HS.out (Sub.refl _)) hx3 (by omega))
          have cB := KD.out.a.box.cell
          have d10 := KD.out.bx.cell 10 _ rfl
          have d0 := K5.out.bx.cell 0 _ rfl
          have HPL := Lib.hid (prsI_len body lab (by omega))
          clear hbd HTB c10 K5 c0
          go_upto_region 13 with (fail)
          clear d0
          refine wp_region_pre 5 (S := (fun wx => wx.cell? ⟨w.heap.size, 0, none⟩ = some o1 ∧ wx.cell? ⟨d, 10, none⟩ = some (.slice A3 body.length p3))) (by kernel_rfl) (by kernel_rfl) ⟨cB, d10⟩ (fun hHeld => ?_)
          simp only [List.take_succ_cons, List.take_zero]
          refine wpAnyH_take_at (i := 0) (v := ?_) (some 60) rfl rfl (by kernel_rfl) (by kernel_rfl) (by kernel_rfl) (fun _ _ _ h => h) (Or.inl ⟨by rfl, ?_⟩) (by assumption) ?_
          rotate_left
          · (intro w hSw; (try dsimp only at hSw); go_simp; (try with_reducible rfl))
          (try simp only [Act.put, List.setIfInBounds_toArray, List.set_cons_zero, List.set_cons_succ])
          refine wpAnyH_take_at (i := 1) (v := ?_) (some 61) rfl rfl (by kernel_rfl) (by kernel_rfl) (by kernel_rfl) (fun _ _ _ h => h) (Or.inl ⟨by rfl, ?_⟩) (by assumption) ?_
          rotate_left
          · (intro w hSw; (try dsimp only at hSw); go_simp; (try with_reducible rfl))
          (try simp only [Act.put, List.setIfInBounds_toArray, List.set_cons_zero, List.set_cons_succ])
          refine wpAnyH_take_at (i := 2) (v := ?_) (some 62) rfl rfl (by kernel_rfl) (by kernel_rfl) (by kernel_rfl) (fun _ _ _ h => h) (Or.inl ⟨by rfl, ?_⟩) (by assumption) ?_
          rotate_left
          · (intro w hSw; (try dsimp only at hSw); go_simp; (try with_reducible rfl))
          (try simp only [Act.put, List.setIfInBounds_toArray, List.set_cons_zero, List.set_cons_succ])
          refine wpAnyH_take_at (i := 3) (v := ?_) (some 63) rfl rfl (by kernel_rfl) (by kernel_rfl) (by kernel_rfl) (fun _ _ _ h => h) (Or.inl ⟨by rfl, ?_⟩) (by assumption) ?_
          rotate_left
          · (intro w hSw; (try dsimp only at hSw); go_simp; (try with_reducible rfl))
          (try simp only [Act.put, List.setIfInBounds_toArray, List.set_cons_zero, List.set_cons_succ])
          refine wpAnyH_ready (rs := [4]) (by kernel_rfl) (by simp) ?_
          refine AllReadyH.cons rfl (fun K hK => ?_) AllReadyH.nil
          go_simp
          refine HC.out.mono ?_
          rintro e w8 ⟨A8, c8, rfl, hr8, hb8⟩
          have K8 := Lib.hid (KD.out.below hb8)
          refine hK.out _ _ ?_ (fun hHeld => ?_)
          · exact ⟨K8.out.a.box.cell, K8.out.bx.cell 10 _ rfl⟩
          clear hK K
          (try simp only [Act.put, List.setIfInBounds_toArray, List.set_cons_zero, List.set_cons_succ])
          refine wpAnyH_done (by kernel_rfl) ?_ _
          unfold QPre
          simp only [List.drop_succ_cons, List.drop_zero]
          have HR8 := Lib.hid hr8
          clear hr8 hb8 HC KD cB d10
          have fB := K8.out.a.box.frozen
          obtain ⟨L1p, hLp⟩ : ∃ X, X = L1 ++ prsI body lab := ⟨_, rfl⟩
          have HLp := Lib.hid hLp
          clear hLp
          go_wp2_with (at_builtin; refine wpList_append_list rfl _ _ 24 rfl i0 _ Tryd.underlying24 hi hz0 hz1 hz2 rfl (by decide) Flat.keeps K8.out.a.own (HR8.out.bare Nowhere) rfl rfl (Sub.nowhere _) (Sub.nowhere _) not_nowhere oneP ?c3 ?c4 ?c5 ?_)
          case c3 => have h9 := HLL.out; have h8 := HPL.out; unfold maxLen; omega
          case c4 => have h9 := HLL.out; have h8 := HPL.out; omega
          try (case c5 => exact K8.out.a.bel.size)
          intro v9 w9 ho9 hg9 hk9
          rw [← HLp.out] at ho9
          obtain ⟨A9, c9, rfl⟩ := ho9.form
          have K9 := Lib.hid (K8.out.app ho9 hg9 hk9)
          have bx9 := K8.out.a.box.kept hg9 (fun e => K8.out.a.ne _ e.symm rfl)
          have cB9 := bx9.cell
          have fB9 := bx9.frozen
          clear ho9 hg9 hk9 fB HR8 K8
          go_upto_region 14 with (fail)
          clear cB9 fB9 bx9
          generalize w9.setCell ⟨w.heap.size, 0, none⟩ (.slice A9 L1p.length c9) = W9b at *
          have c0 := K9.out.bx.cell 0 _ rfl
          have hbd : Below W9b.heap.size W9b W9b.drew := (Below.refl _ _).drew
          have KE := Lib.hid (K9.out.below hbd)
          have cB := KE.out.a.box.cell
          have d10 := KE.out.bx.cell 10 _ rfl
          have d11 := KE.out.bx.cell 11 _ rfl
          have HLB := Lib.hid ((labs_all _ body (Nat.le_refl _)).2 W9b.drew S _ (HS.out.trans (Sub.upto KE.out.a.bel.size)) (RV.out.go RdSt.keeps KE.out.a.bel HS.out (Sub.refl _)) hx3)
          have HEL := Lib.hid (prsI_len els (lab + labelsL body) (by omega))
          have HVI := Lib.hid (show (lab : Int) + (labelsL body : Int) = ((lab + labelsL body : Nat) : Int) by omega)
          have HB8 := Lib.hid (show lab + labelsL body + labelsL els ≤ 65535 by omega)
          have hb8 : lab + labelsL body ≤ 1048577 := by omega
          have hw3 : wrap64 ((lab : Int) + (labelsL body : Int)) = (lab : Int) + (labelsL body : Int) := w64_2 hb8
          have hw4 : IntKind.i64.wrap ((lab : Int) + (labelsL body : Int)) = (lab : Int) + (labelsL body : Int) := i64_2 hb8
          have c0 := KE.out.bx.cell 0 _ rfl
          clear hbd K9
          go_upto_region 15 with (fail)
          refine wp_region_pre 9 (S := (fun wx => wx.cell? ⟨w.heap.size, 0, none⟩ = some (.slice A9 L1p.length c9) ∧ wx.cell? ⟨d, 11, none⟩ = some (.slice A4 els.length p4) ∧ wx.cell? ⟨d, 10, none⟩ = some (.slice A3 body.length p3))) (by kernel_rfl) (by kernel_rfl) ⟨cB, d11, d10⟩ (fun hHeld => ?_)
          simp only [List.take_succ_cons, List.take_zero]
          refine wpAnyH_take_at (i := 0) (v := ?_) (some 69) rfl rfl (by kernel_rfl) (by kernel_rfl) (by kernel_rfl) (fun _ _ _ h => h) (Or.inl ⟨by rfl, ?_⟩) (by assumption) ?_
          rotate_left
          · (intro w hSw; (try dsimp only at hSw); go_simp; (try with_reducible rfl))
          (try simp only [Act.put, List.setIfInBounds_toArray, List.set_cons_zero, List.set_cons_succ])
          refine wpAnyH_take_at (i := 1) (v := ?_) (some 70) rfl rfl (by kernel_rfl) (by kernel_rfl) (by kernel_rfl) (fun _ _ _ h => h) (Or.inl ⟨by rfl, ?_⟩) (by assumption) ?_
          rotate_left
          · (intro w hSw; (try dsimp only at hSw); go_simp; (try with_reducible rfl))
          (try simp only [Act.put, List.setIfInBounds_toArray, List.set_cons_zero, List.set_cons_succ])
          refine wpAnyH_take_at (i := 2) (v := ?_) (some 71) rfl rfl (by kernel_rfl) (by kernel_rfl) (by kernel_rfl) (fun _ _ _ h => h) (Or.inl ⟨by rfl, ?_⟩) (by assumption) ?_
          rotate_left
          · (intro w hSw; (try dsimp only at hSw); go_simp; (try with_reducible rfl))
          (try simp only [Act.put, List.setIfInBounds_toArray, List.set_cons_zero, List.set_cons_succ])
          refine wpAnyH_take_at (i := 3) (v := ?_) (some 72) rfl rfl (by kernel_rfl) (by kernel_rfl) (by kernel_rfl) (fun _ _ _ h => h) (Or.inl ⟨by rfl, ?_⟩) (by assumption) ?_
          rotate_left
          · (intro w hSw; (try dsimp only at hSw); go_simp; (try with_reducible rfl))
          (try simp only [Act.put, List.setIfInBounds_toArray, List.set_cons_zero, List.set_cons_succ])
          refine wpAnyH_take_at (i := 4) (v := ?_) (some 73) rfl rfl (by kernel_rfl) (by kernel_rfl) (by kernel_rfl) (fun _ _ _ h => h) (Or.inl ⟨by rfl, ?_⟩) (by assumption) ?_
          rotate_left
          · (intro w hSw; (try dsimp only at hSw); go_simp; (try with_reducible rfl))
          (try simp only [Act.put, List.setIfInBounds_toArray, List.set_cons_zero, List.set_cons_succ])
          refine wpAnyH_take_at (i := 5) (v := ?_) (some 74) rfl rfl (by kernel_rfl) (by kernel_rfl) (by kernel_rfl) (fun _ _ _ h => h) (Or.inl ⟨by rfl, ?_⟩) (by assumption) ?_
          rotate_left
          · (intro w hSw; (try dsimp only at hSw); go_simp; (try with_reducible rfl))
          (try simp only [Act.put, List.setIfInBounds_toArray, List.set_cons_zero, List.set_cons_succ])
          refine wpAnyH_ready (rs := [6]) (by kernel_rfl) (by simp) ?_
          refine AllReadyH.cons rfl (fun K hK => ?_) AllReadyH.nil
          go_simp
          refine HLB.out.mono ?_
          rintro e w5 ⟨rfl, hb5⟩
          have KF := Lib.hid (KE.out.below hb5)
          refine hK.out _ _ ?_ (fun hHeld => ?_)
          · exact ⟨KF.out.a.box.cell, KF.out.bx.cell 11 _ rfl, KF.out.bx.cell 10 _ rfl⟩
          clear hK K
          (try simp only [Act.put, List.setIfInBounds_toArray, List.set_cons_zero, List.set_cons_succ])
          refine wpAnyH_take_at (i := 7) (v := ?_) (some 76) rfl rfl (by kernel_rfl) (by kernel_rfl) (by kernel_rfl) (fun _ _ _ h => h) (Or.inl ⟨by rfl, ?_⟩) (by assumption) ?_
          rotate_left
          · (intro w hSw; (try dsimp only at hSw); go_simp; (try with_reducible rfl))
          (try simp only [Act.put, List.setIfInBounds_toArray, List.set_cons_zero, List.set_cons_succ])
          have HCE := Lib.hid (HIB.out.2 (lab + labelsL body) w5 S _ (HS.out.trans (Sub.upto KF.out.a.bel.size)) (RV2.out.go RdSt.keeps KF.out.a.bel HS.out (Sub.refl _)) hx4 HB8.out)
          refine wpAnyH_ready (rs := [8]) (by kernel_rfl) (by simp) ?_
          refine AllReadyH.cons rfl (fun K hK => ?_) AllReadyH.nil
          go_simp
          rw [HVI.out]
          refine HCE.out.mono ?_
          rintro e w6 ⟨A6, c6, rfl, hr6, hb6⟩
          have KG := Lib.hid (KF.out.below hb6)
          refine hK.out _ _ ?_ (fun hHeld => ?_)
          · exact ⟨KG.out.a.box.cell, KG.out.bx.cell 11 _ rfl, KG.out.bx.cell 10 _ rfl⟩
          clear hK K
          (try simp only [Act.put, List.setIfInBounds_toArray, List.set_cons_zero, List.set_cons_succ])
          clear hw3 hw4
          refine wpAnyH_done (by kernel_rfl) ?_ _
          unfold QPre
          simp only [List.drop_succ_cons, List.drop_zero]
          have HR6 := Lib.hid hr6
          clear hr6 hb6 hb5 HCE HLB KE KF cB d10 d11
          have fB := KG.out.a.box.frozen
          obtain ⟨Le, hLe⟩ : ∃ X, X = L1p ++ prsI els (lab + labelsL body) := ⟨_, rfl⟩
          have HLe := Lib.hid hLe
          have HLPL := Lib.hid (show L1p.length ≤ 34359738368 by have h9 := HLL.out; have h8 := HPL.out; rw [HLp.out, List.length_append]; omega)
          clear hLe
          go_wp2_with (at_builtin; refine wpList_append_list rfl _ _ 24 rfl i0 _ Tryd.underlying24 hi hz0 hz1 hz2 rfl (by decide) Flat.keeps KG.out.a.own (HR6.out.bare Nowhere) rfl rfl (Sub.nowhere _) (Sub.nowhere _) not_nowhere oneP ?c3 ?c4 ?c5 ?_)
          case c3 => have h9 := HLPL.out; have h8 := HEL.out; have h7 := HB8.out; unfold maxLen; omega
          case c4 => have h9 := HLPL.out; have h8 := HEL.out; have h7 := HB8.out; omega
          try (case c5 => exact KG.out.a.bel.size)
          intro v9 w9 ho9 hg9 hk9
          rw [← HLe.out] at ho9
          obtain ⟨A7, c7, rfl⟩ := ho9.form
          have KH := Lib.hid (KG.out.app ho9 hg9 hk9)
          have bx9 := KG.out.a.box.kept hg9 (fun e => KG.out.a.ne _ e.symm rfl)
          have cB9 := bx9.cell
          have fB9 := bx9.frozen
          clear ho9 hg9 hk9 fB HR6 KG
          go_upto_region 16 with (fail)
          clear cB9 fB9 bx9
          generalize w9.setCell ⟨w.heap.size, 0, none⟩ (.slice A7 Le.length c7) = W9e at *
          have HA9 := Lib.hid KH.out.a
          have HPT9 := Lib.hid (show PtA l at_ (q + 1) Le by
            rw [HLe.out, HLp.out, HL1.out, List.append_assoc, List.append_assoc]
            refine HST.out (crsI M (rngI (lab + n) rest) ++ (prsI body lab ++ prsI els (lab + labelsL body))) (fun i j => ?_) ?_ (fun x hx => (List.mem_append.1 hx).elim (HOK0.out x) (fun hx => (List.mem_append.1 hx).elim (ok_prs (by omega) x) (ok_prs (by omega) x)))
            · rw [InP.app, InP.app, HIN0.out, inP_prs, inP_prs, prS_if, Bool.or_eq_true]
              exact Or.comm
            · rw [List.length_append, List.length_append]
              have h1 := HC0.out
              have h2 := HPL.out
              have h3 := HEL.out
              omega)
          clear KH HLp HPL HLe HEL HLPL HVI HB8
          have hb9 : lab + n ≤ 1048577 := by omega
          have hw1 : wrap64 ((lab : Int) + (n : Int)) = (lab : Int) + (n : Int) := w64_2 hb9
          have hw2 : IntKind.i64.wrap ((lab : Int) + (n : Int)) = (lab : Int) + (n : Int) := i64_2 hb9
          go_wp2_with fail
          go_roundw
          all_goals clear hw1 hw2
          case rel => exact ⟨q + 1, _, _, by omega, by go_num, by rw [HLS.out]; congr 1; have := HLAB.out; omega, HPT9, HA9⟩
          case measure => simp [intOf]; omega
        by_cases h7 : k = 7
        · subst h7
          have hbn : labelsL body = n := by rw [HNE.out, labels_one (.inr (.inr rfl))]
          have HTL := Lib.hid (tlab_any lab n (by omega) w5)
          have HCR := Lib.hid (show ∀ w6 A7 c7, Below w5.heap.size w5 w6 → RdI w6 (Plus Nowhere w5.heap.size w6.heap.size) (rngI lab n) (.slice A7 n c7) →
            Calls Tryd.prog 15 #[.slice A5 M.length c5, .slice A7 n c7, .pointer (some ⟨w.heap.size, 0, none⟩)] w6 fun e w7 => e = .returned (.tuple #[]) ∧ ∃ o2, TpD w d [.int .i64 7, .string s, .int .i64 k1, .int .i64 n1, .string s1, .slice A1 m1 p1, .int .i64 k2, .int .i64 n2, .string s2, .slice A2 m2 p2, .slice A3 body.length p3, .slice A4 els.length p4] (L1 ++ crsI M (rngI lab n)) w7 o2 from by
            intro w6 A7 c7 hb6 hr6
            have hz6 := hb6.size
            have K6 := K5.out.below hb6
            have hwl := K6.a.bel.size
            have hMin : ∀ x ∈ M, 0 ≤ x ∧ x ≤ 65535 := by rw [HM.out]; exact ops_in (by rw [labelsL_one, ← HNE.out]; omega)
            refine (cross_any w.heap.size w.heap.size M (rngI lab n) L1 w6 o1 _ _ (Plus Nowhere w1.heap.size w2.heap.size) (Plus Nowhere w5.heap.size w6.heap.size) hwl (CrA.start K6.a.box K6.a.own K6.a.ne)
              (plus_upto.trans (Sub.upto (Nat.le_trans hz5 hz6))) plus_upto
              (fun k hk hx => hk.elim (fun h => h.elim) (fun h => by have h1 := h.1; have h2 := h.2; exact hx.elim (fun e => by omega) (fun e => by have := HOW5.out k e; omega)))
              (fun k hk hx => hk.elim (fun h => h.elim) (fun h => by have h1 := h.1; exact hx.elim (fun e => by have := K5.out.a.box.lt; omega) (fun e => by have := (K5.out.a.own.lt k e).2; omega)))
              (RM5.out.go Flat.keeps hb6 (plus_upto.trans (Sub.upto hz5)) (Sub.refl _)) hr6 (by
                rw [rngI_len]
                have h1 := HOL.out
                have h2 := HLL.out
                have h3 : M.length * n ≤ 65535 * 65535 := Nat.mul_le_mul (by omega) (by omega)
                omega) (fun x hx => inI_of (hMin x hx)) (fun x hx => inI_of (rng_in (by omega) x hx))).mono ?_
            rintro e w7 ⟨rfl, o2, hc⟩
            exact ⟨rfl, o2, K6.cross hc⟩)
          go_wp2_with fail
          refine HTL.out.mono ?_
          rintro e w6 ⟨A7, c7, rfl, hr6, hb6⟩
          have HC7 := Lib.hid (HCR.out w6 A7 c7 hb6 hr6)
          clear hr6 hb6 HCR HTL
          go_wp2_with fail
          refine HC7.out.mono ?_
          rintro e w7 ⟨rfl, o2, hk7⟩
          obtain ⟨L2, hL2⟩ : ∃ L2, L2 = L1 ++ crsI M (rngI lab n) := ⟨_, rfl⟩
          rw [← hL2] at hk7
          have HL2 := Lib.hid hL2
          have K7 := Lib.hid hk7
          have HC1 := Lib.hid (show (crsI M (rngI lab n)).length ≤ n * 65536 by rw [crsI_len, rngI_len]; exact Nat.mul_le_mul HOL.out (by omega))
          have HLL2 := Lib.hid (show L2.length ≤ 30064771072 by have h1 := HC1.out; have h2 := HLL.out; rw [hL2, List.length_append]; omega)
          clear hk7 hL2 HC7 K5 c0 RM5 HLL
          have HLL := HLL2
          have c0 := K7.out.bx.cell 0 _ rfl
          have HTB := Lib.hid (HIB.out.1 lab)
          have c10 := K7.out.bx.cell 10 _ rfl
          have hbd : Below w7.heap.size w7 w7.drew := (Below.refl _ _).drew
          have KD := Lib.hid (K7.out.below hbd)
          have HC := Lib.hid (HTB.out w7.drew S _ (HS.out.trans (Sub.upto KD.out.a.bel.size)) (RV.out.go RdSt.keeps KD.out.a.bel HS.out (Sub.refl _)) hx3 (by omega))
          have cB := KD.out.a.box.cell
          have d10 := KD.out.bx.cell 10 _ rfl
          have d0 := K7.out.bx.cell 0 _ rfl
          have HPL := Lib.hid (prsI_len body lab (by omega))
          clear hbd HTB c10 K7 c0
          go_upto_region 13 with (fail)
          clear d0
          refine wp_region_pre 5 (S := (fun wx => wx.cell? ⟨w.heap.size, 0, none⟩ = some o2 ∧ wx.cell? ⟨d, 10, none⟩ = some (.slice A3 body.length p3))) (by kernel_rfl) (by kernel_rfl) ⟨cB, d10⟩ (fun hHeld => ?_)
          simp only [List.take_succ_cons, List.take_zero]
          refine wpAnyH_take_at (i := 0) (v := ?_) (some 60) rfl rfl (by kernel_rfl) (by kernel_rfl) (by kernel_rfl) (fun _ _ _ h => h) (Or.inl ⟨by rfl, ?_⟩) (by assumption) ?_
          rotate_left
          · (intro w hSw; (try dsimp only at hSw); go_simp; (try with_reducible rfl))
          (try simp only [Act.put, List.setIfInBounds_toArray, List.set_cons_zero, List.set_cons_succ])
          refine wpAnyH_take_at (i := 1) (v := ?_) (some 61) rfl rfl (by kernel_rfl) (by kernel_rfl) (by kernel_rfl) (fun _ _ _ h => h) (Or.inl ⟨by rfl, ?_⟩) (by assumption) ?_
          rotate_left
          · (intro w hSw; (try dsimp only at hSw); go_simp; (try with_reducible rfl))
          (try simp only [Act.put, List.setIfInBounds_toArray, List.set_cons_zero, List.set_cons_succ])
          refine wpAnyH_take_at (i := 2) (v := ?_) (some 62) rfl rfl (by kernel_rfl) (by kernel_rfl) (by kernel_rfl) (fun _ _ _ h => h) (Or.inl ⟨by rfl, ?_⟩) (by assumption) ?_
          rotate_left
          · (intro w hSw; (try dsimp only at hSw); go_simp; (try with_reducible rfl))
          (try simp only [Act.put, List.setIfInBounds_toArray, List.set_cons_zero, List.set_cons_succ])
          refine wpAnyH_take_at (i := 3) (v := ?_) (some 63) rfl rfl (by kernel_rfl) (by kernel_rfl) (by kernel_rfl) (fun _ _ _ h => h) (Or.inl ⟨by rfl, ?_⟩) (by assumption) ?_
          rotate_left
          · (intro w hSw; (try dsimp only at hSw); go_simp; (try with_reducible rfl))
          (try simp only [Act.put, List.setIfInBounds_toArray, List.set_cons_zero, List.set_cons_succ])
          refine wpAnyH_ready (rs := [4]) (by kernel_rfl) (by simp) ?_
          refine AllReadyH.cons rfl (fun K hK => ?_) AllReadyH.nil
          go_simp
          refine HC.out.mono ?_
          rintro e w8 ⟨A8, c8, rfl, hr8, hb8⟩
          have K8 := Lib.hid (KD.out.below hb8)
          refine hK.out _ _ ?_ (fun hHeld => ?_)
          · exact ⟨K8.out.a.box.cell, K8.out.bx.cell 10 _ rfl⟩
          clear hK K
          (try simp only [Act.put, List.setIfInBounds_toArray, List.set_cons_zero, List.set_cons_succ])
          refine wpAnyH_done (by kernel_rfl) ?_ _
          unfold QPre
          simp only [List.drop_succ_cons, List.drop_zero]
          have HR8 := Lib.hid hr8
          clear hr8 hb8 HC KD cB d10
          have fB := K8.out.a.box.frozen
          obtain ⟨L2p, hLp⟩ : ∃ X, X = L2 ++ prsI body lab := ⟨_, rfl⟩
          have HLp := Lib.hid hLp
          clear hLp
          go_wp2_with (at_builtin; refine wpList_append_list rfl _ _ 24 rfl i0 _ Tryd.underlying24 hi hz0 hz1 hz2 rfl (by decide) Flat.keeps K8.out.a.own (HR8.out.bare Nowhere) rfl rfl (Sub.nowhere _) (Sub.nowhere _) not_nowhere oneP ?c3 ?c4 ?c5 ?_)
          case c3 => have h9 := HLL.out; have h8 := HPL.out; unfold maxLen; omega
          case c4 => have h9 := HLL.out; have h8 := HPL.out; omega
          try (case c5 => exact K8.out.a.bel.size)
          intro v9 w9 ho9 hg9 hk9
          rw [← HLp.out] at ho9
          obtain ⟨A9, c9, rfl⟩ := ho9.form
          have K9 := Lib.hid (K8.out.app ho9 hg9 hk9)
          have bx9 := K8.out.a.box.kept hg9 (fun e => K8.out.a.ne _ e.symm rfl)
          have cB9 := bx9.cell
          have fB9 := bx9.frozen
          clear ho9 hg9 hk9 fB HR8 K8
          go_upto_region 14 with (fail)
          clear cB9 fB9 bx9
          generalize w9.setCell ⟨w.heap.size, 0, none⟩ (.slice A9 L2p.length c9) = W9b at *
          have c0 := K9.out.bx.cell 0 _ rfl
          have HA9 := Lib.hid K9.out.a
          have HPT9 := Lib.hid (show PtA l at_ (q + 1) L2p by
            rw [HLp.out, HL2.out, HL1.out, List.append_assoc, List.append_assoc]
            refine HST.out (crsI M (rngI (lab + n) rest) ++ (crsI M (rngI lab n) ++ prsI body lab)) (fun i j => ?_) ?_ (fun x hx => (List.mem_append.1 hx).elim (HOK0.out x) (fun hx => (List.mem_append.1 hx).elim (ok_crs (by rw [HM.out]; exact ops_in (by rw [labelsL_one, ← HNE.out]; omega)) (rng_in (by omega)) x) (ok_prs (by omega) x)))
            · rw [InP.app, InP.app, HIN0.out, HM.out, in_crs, inP_prs, prS_for, Bool.or_eq_true, hbn]
              rw [show mixB (opS (.mk 7 s a c body els) lab) (rngB lab n) i j = mixB (opL body lab) (rngB lab n) i j from by rw [show opS (.mk 7 s a c body els) lab = opL body lab from funext (opS_for lab)]]
              constructor
              · rintro (h | h | h)
                · exact .inr h
                · exact .inl (.inr h)
                · exact .inl (.inl h)
              · rintro ((h | h) | h)
                · exact .inr (.inr h)
                · exact .inr (.inl h)
                · exact .inl h
            · rw [List.length_append, List.length_append]
              have h1 := HC0.out
              have h2 := HPL.out
              have h3 := HC1.out
              omega)
          clear K9 HLp HPL HL2 HC1 HLL2
          have hb9 : lab + n ≤ 1048577 := by omega
          have hw1 : wrap64 ((lab : Int) + (n : Int)) = (lab : Int) + (n : Int) := w64_2 hb9
          have hw2 : IntKind.i64.wrap ((lab : Int) + (n : Int)) = (lab : Int) + (n : Int) := i64_2 hb9
          go_wp2_with fail
          go_roundw
          all_goals clear hw1 hw2
          case rel => exact ⟨q + 1, _, _, by omega, by go_num, by rw [HLS.out]; congr 1; have := HLAB.out; omega, HPT9, HA9⟩
          case measure => simp [intOf]; omega
        have HA9 := Lib.hid K5.out.a
        have HPT9 := Lib.hid (show PtA l at_ (q + 1) L1 by
          rw [HL1.out]
          refine HST.out (crsI M (rngI (lab + n) rest)) (fun i j => ?_) (Nat.le_trans HC0.out (Nat.mul_le_mul_right _ (by omega))) HOK0.out
          rw [HIN0.out, prS_no (by omega)]
          exact ⟨.inr, fun h => h.elim (fun h => Bool.noConfusion h) id⟩)
        clear K5 RM5
        by_cases hk4 : k < 4
        · skip
          have hd1 : decide ((4 : Int) ≤ k) = false := by simp; omega
          have hb9 : lab + n ≤ 1048577 := by omega
          have hw1 : wrap64 ((lab : Int) + (n : Int)) = (lab : Int) + (n : Int) := w64_2 hb9
          have hw2 : IntKind.i64.wrap ((lab : Int) + (n : Int)) = (lab : Int) + (n : Int) := i64_2 hb9
          go_wp2_with fail
          go_roundw
          all_goals clear hw1 hw2
          case rel => exact ⟨q + 1, _, _, by omega, by go_num, by rw [HLS.out]; congr 1; have := HLAB.out; omega, HPT9, HA9⟩
          case measure => simp [intOf]; omega
        · skip
          have hd1 : decide ((4 : Int) ≤ k) = true := by simp; omega
          have hd2 : decide (k ≤ (7 : Int)) = false := by simp; omega
          have hb9 : lab + n ≤ 1048577 := by omega
          have hw1 : wrap64 ((lab : Int) + (n : Int)) = (lab : Int) + (n : Int) := w64_2 hb9
          have hw2 : IntKind.i64.wrap ((lab : Int) + (n : Int)) = (lab : Int) + (n : Int) := i64_2 hb9
          go_wp2_with fail
          go_roundw
          all_goals clear hw1 hw2
          case rel => exact ⟨q + 1, _, _, by omega, by go_num, by rw [HLS.out]; congr 1; have := HLAB.out; omega, HPT9, HA9⟩
          case measure => simp [intOf]; omega
    · skip
      have hqe : q = l.length := by omega
      subst hqe
      have hpt := HP.out
      have HIN := Lib.hid (show ∀ i j, InP L i j ↔ prL l at_ i j = true from fun i j => by
        have h := hpt.mem i j
        rw [List.drop_length] at h
        rw [h]
        exact ⟨.inl, fun h => h.elim id (fun h => by rw [prL] at h; cases h)⟩)
      have HOKL := Lib.hid hpt.ok
      have HLN := Lib.hid (show L.length ≤ 17179869184 from by have := hpt.len; rw [List.take_length] at this; omega)
      have cB := HA.out.box.cell
      have hR := HA.out.own.toRd (bytes := 16) (S' := Plus Nowhere w.heap.size wr.heap.size) Flat.keeps (by have := HLN.out; omega) (Sub.nowhere _) (fun b h1 h2 => .inr ⟨h1, h2⟩)
      have HC := Lib.hid (opairs_any L HOKL.out (by have := HLN.out; omega) wr _ _ plus_upto hR)
      have HBE := Lib.hid hbel
      have hzw := hbel.size
      clear hR hpt hbel
      go_wp2_with fail
      refine HC.out.mono ?_
      rintro e w2 ⟨A9, c9, M, rfl, hr, hpw, hm, hb2⟩
      have HEQ := Lib.hid (show M = prsI l at_ from pairs_prI hpw (fun x => by
        rw [hm]
        constructor
        · rintro ⟨y, hy, rfl⟩
          have h1 := HOKL.out y hy
          unfold okPN at h1
          obtain ⟨i, hi⟩ : ∃ i : Nat, (i : Int) = min y.1 y.2 := ⟨(min y.1 y.2).toNat, by omega⟩
          obtain ⟨j, hj⟩ : ∃ j : Nat, (j : Int) = max y.1 y.2 := ⟨(max y.1 y.2).toNat, by omega⟩
          have h2 : prL l at_ i j = true := (HIN.out i j).1 ⟨y, hy, by unfold nmP; rw [hi, hj]⟩
          have h3 := prL_rng l at_ i j h2
          exact ⟨i, j, by unfold nmP; rw [hi, hj], by omega, by omega, h2⟩
        · rintro ⟨i, j, rfl, _, _, h⟩
          exact (HIN.out i j).2 h))
      have HR := Lib.hid (hr.sub (S' := Plus Nowhere w.heap.size w2.heap.size) Flat.keeps (fun b h => h.elim (fun h => h.elim) (fun h => .inr ⟨by have := h.1; omega, h.2⟩)))
      have HB2 := Lib.hid (HBE.out.trans (hb2.mono HBE.out.size))
      clear hr hpw hm hb2 HC
      have hq9 := HEQ.out
      subst hq9
      go_wp2_with fail
      go_ret
      exact ⟨A9, c9, rfl, HR.out, HB2.out⟩
theorem tpairs_all (m : Nat) : ∀ l : List St, SizeOf.sizeOf l ≤ m → TpC l := by
  induction m with
  | zero => intro l h; cases l <;> simp at h
  | succ m ih =>
    intro l h
    have hsz : ∀ k s a b body els, St.mk k s a b body els ∈ l → SizeOf.sizeOf body ≤ m ∧ SizeOf.sizeOf els ≤ m := fun k s a b body els hm => by
      have := List.sizeOf_lt_of_mem hm
      simp only [St.mk.sizeOf_spec] at this
      omega
    exact tpairs_one l (fun k s a b body els hm => ⟨ih _ (hsz _ _ _ _ _ _ hm).1, ih _ (hsz _ _ _ _ _ _ hm).2⟩)
theorem tpairs_any (l : List St) : TpC l := tpairs_all _ l (Nat.le_refl _)
end Go.Proofs.YtnpgpcnkdocknaaDoor
