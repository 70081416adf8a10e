/- The walk of the yard's pick. -/
import Derived.Test.YtbpooepbnnbipaaSy4
namespace Go.Proofs.Ytbpooepbnnbipaa
open Go.RowKit
set_option linter.unusedVariables false
section
variable (base y : Nat) (t : Tm) (k N gp cp ga ca gq cq : Nat) (ds : List Nat) (lv : Int)
/-- behind a part of pick -/
def PkR (w : World) (col : Nat → Nat) (s : Vs) (w' : World) : Prop := ∃ col' od', Yd base w' y col' t k N gp cp ga ca gq cq ds lv od' s ∧ (∀ b, b < w.heap.size → col' b = col b) ∧ But (Yc col) w w'
/-- what a call of pick owes -/
def PickC (who whom : Int) : Prop := ∀ (w : World) (col : Nat → Nat) (od : Value) (s : Vs), Yd base w y col t k N gp cp ga ca gq cq ds lv od s → VOk t k s → s.out.length ≤ 4294967296 →
  Calls Try.prog 17 #[.pointer (some ⟨y, 0, none⟩), .agg #[.int .i64 who, .int .i64 whom]] w fun e w' => e = .returned (.tuple #[]) ∧ PkR base y t k N gp cp ga ca gq cq ds lv w col (pickV t s who whom) w'
end
section
variable {base y : Nat} {t : Tm} {k N gp cp ga ca gq cq : Nat} {ds : List Nat} {lv : Int}
theorem PkR.on {w w1 w' : World} {col col1 : Nat → Nat} {s : Vs} (hc : ∀ b, b < w.heap.size → col1 b = col b) (hb : But (Yc col) w w1) (h : PkR base y t k N gp cp ga ca gq cq ds lv w1 col1 s w') : PkR base y t k N gp cp ga ca gq cq ds lv w col s w' := by
  obtain ⟨col', od', h1, h2, h3⟩ := h
  exact ⟨col', od', h1, fun b hb' => (h2 b (Nat.lt_of_lt_of_le hb' hb.size)).trans (hc b hb'), hb.on h3 fun x hx hu => by unfold Yc at *; rw [← hc x hx]; exact hu⟩
end
set_option maxHeartbeats 2000000 in
set_option maxRecDepth 100000 in
/-- no such worker -/
theorem pick_no (base y : Nat) (t : Tm) (k N gp cp ga ca gq cq : Nat) (ds : List Nat) (lv : Int) (hk : k ≤ 16) (who whom : Int) (hw : ¬ (0 ≤ who ∧ who < (k : Int))) : PickC base y t k N gp cp ga ca gq cq ds lv who whom := by
  intro w col od s hY hV hO
  have HP := Lib.hid (show pickV t s who whom = s by unfold pickV; rw [if_neg (by rw [hV.la]; exact hw)])
  have bel : Below w.heap.size w (w.alloc (.cells #[.int .i64 who, .int .i64 whom] 63)) := (Below.refl _ _).alloc (Nat.le_refl _) _
  have HYW := Lib.hid (hY.below bel)
  have HB := Lib.hid (But.of_below (T := Yc col) bel)
  have BX := Blk.made w [.int .i64 who, .int .i64 whom] 63 (base := 0) (Nat.zero_le _)
  clear bel hY hV
  go_enter Try.func17, Try.ntmps17
  go_upto_region 1 with (fail)
  obtain ⟨bx, hbx⟩ : ∃ bx, bx = w.heap.size := ⟨_, rfl⟩
  change Code.wp _ _ _ _ (w.alloc (.cells [.int .i64 who, .int .i64 whom].toArray 63))
  have HYW : Hid (Yd base (w.alloc (.cells [.int .i64 who, .int .i64 whom].toArray 63)) y col t k N gp cp ga ca gq cq ds lv od s) := HYW
  have HB : Hid (But (Yc col) w (w.alloc (.cells [.int .i64 who, .int .i64 whom].toArray 63))) := HB
  rw [← hbx] at BX ⊢
  clear hbx
  generalize w.alloc (.cells [.int .i64 who, .int .i64 whom].toArray 63) = W at *
  have x0 := BX.cell 0 _ rfl
  have x1 := BX.cell 1 _ rfl
  have c2 := HYW.out.hd.cell 2 _ rfl
  clear BX
  by_cases h0 : who < 0
  · have hd : decide (who < 0) = true := decide_eq_true h0
    go_quiet (fail)
    go_wp2
    refine bodyPost_ret (results_none rfl _ _ _) rfl ?_
    refine ⟨rfl, ?_⟩
    rw [HP.out]
    exact ⟨col, od, HYW.out.below (below_drewN (Below.refl _ W) ‹Nat›), fun _ _ => rfl, HB.out.drewN _⟩
  · have hd : decide (who < 0) = false := decide_eq_false h0
    have h1 : (k : Int) ≤ who := by omega
    go_quiet (fail)
    go_wp2
    refine bodyPost_ret (results_none rfl _ _ _) rfl ?_
    refine ⟨rfl, ?_⟩
    rw [HP.out]
    exact ⟨col, od, HYW.out.below (below_drewN (Below.refl _ W) ‹Nat›), fun _ _ => rfl, HB.out.drewN _⟩
set_option maxHeartbeats 4000000 in
set_option maxRecDepth 100000 in
theorem pick_go (base y : Nat) (t : Tm) (k N gp cp ga ca gq cq : Nat) (ds : List Nat) (lv : Int) (hN : N ≤ 8796093022208) (hNn : (nodesT t).length ≤ N) (hL : (nodesT t).length ≤ 1099511627776) (hk : k ≤ 16) (wk : Nat) (hwk : wk < k) (whom : Int) : PickC base y t k N gp cp ga ca gq cq ds lv (wk : Int) whom := by
  intro w col od s hYc hV hO
  obtain ⟨col0, hc0, hc4⟩ : ∃ col0 : Nat → Nat, (∀ b, b < w.heap.size → col0 b = col b) ∧ ∀ b, w.heap.size ≤ b → col0 b = 4 := by
    classical
    exact ⟨fun b => if b < w.heap.size then col b else 4, fun b h => if_pos h, fun b h => if_neg (by omega)⟩
  have hY := hYc.colour hc0
  have HC0 := Lib.hid hc0
  have HGA := Lib.hid (show ga < w.heap.size ∧ col ga = 2 from ⟨hYc.at_.lt, hYc.ca⟩)
  have HC4 := Lib.hid hc4
  clear hYc hc0 hc4
  have HP := Lib.hid (show pickV t s (wk : Int) whom = calmW t (actV t s wk whom) wk by unfold pickV; rw [if_pos (by rw [hV.la]; omega)]; rfl)
  have HEND := Lib.hid (fun od => ended_any base y t k N gp cp ga ca gq cq ds lv od wk hwk hN hL hk)
  have HSET := Lib.hid (fun od => settle_any base y t k N gp cp ga ca gq cq ds lv od wk hwk hN hNn hL hk)
  have WK : (wk : Int) < (k : Int) := by omega
  have HV := Lib.hid hV
  have HL := Lib.hid hL
  have HN := Lib.hid hN
  have HOB := Lib.hid (fun b e => (hY.dn.lt b e).2)
  have bel : Below w.heap.size w (w.alloc (.cells [.int .i64 (wk : Int), .int .i64 whom].toArray 63)) := (Below.refl _ _).alloc (Nat.le_refl _) _
  have HYW := Lib.hid (hY.below bel)
  have HB := Lib.hid (But.of_below (T := Yc col) bel)
  have BX := Blk.made w [.int .i64 (wk : Int), .int .i64 whom] 63 (base := 0) (Nat.zero_le _)
  have HXN := Lib.hid (show ∀ b, b < w.heap.size → b ≠ w.heap.size from fun b h => by omega)
  have HSZ0 := Lib.hid (show w.heap.size ≤ ((w.alloc (.cells [.int .i64 (wk : Int), .int .i64 whom].toArray 63))).heap.size from bel.size)
  clear bel hY hV
  go_enter Try.func17, Try.ntmps17
  go_upto_region 1 with (fail)
  obtain ⟨bx, hbx⟩ : ∃ bx, bx = w.heap.size := ⟨_, rfl⟩
  change Code.wp _ _ _ _ (w.alloc (.cells [.int .i64 (wk : Int), .int .i64 whom].toArray 63))
  rw [← hbx] at BX ⊢
  have HBXW := Lib.hid hbx
  clear hbx
  generalize (w.alloc (.cells [.int .i64 (wk : Int), .int .i64 whom].toArray 63)) = W at *
  have x0 := BX.cell 0 _ rfl
  have x1 := BX.cell 1 _ rfl
  have c2 := HYW.out.hd.cell 2 _ rfl
  have hd : decide ((wk : Int) < 0) = false := decide_eq_false (by omega)
  go_quiet (fail)
  have HYV := Lib.hid (HYW.out.below (below_drewN (Below.refl _ W) ‹Nat›))
  have HBV := Lib.hid (HB.out.drewN ‹Nat›)
  have HSZ := Lib.hid (show w.heap.size ≤ (W.drewN ‹Nat›).heap.size from HSZ0.out)
  have BX1 := BX.drewN ‹Nat›
  generalize W.drewN ‹Nat› = V at *
  clear x0 x1 c2 BX HYW HB HSZ0 hd
  have x0 := BX1.cell 0 _ rfl
  have c2 := HYV.out.hd.cell 2 _ rfl
  have cw := HYV.out.worker hwk
  cases hat : (s.at_[wk]?).getD none with
  | some p =>
    rw [hat] at cw
    replace cw : V.cell? ⟨ga, wk, none⟩ = some (.int .i64 (nmP t p : Int)) := cw
    obtain ⟨m, hm⟩ : ∃ m, m = nmP t p := ⟨_, rfl⟩
    rw [← hm] at cw
    have HM := Lib.hid hm
    have HAT := Lib.hid hat
    clear hm hat
    go_wp2_with fail
    go_quiet (fail)
    have HYU := Lib.hid (HYV.out.below (below_drewN (Below.refl _ V) ‹Nat›))
    have HBU := Lib.hid (HBV.out.drewN ‹Nat›)
    have HSU := Lib.hid (show w.heap.size ≤ (V.drewN ‹Nat›).heap.size from HSZ.out)
    have BX2 := BX1.drewN ‹Nat›
    generalize V.drewN ‹Nat› = U at *
    clear x0 c2 cw BX1 HYV HBV HSZ
    go_wp2_with fail
    have hl1 : wk < s.at_.length := by rw [HV.out.la]; exact hwk
    have hatw : s.at_[wk] = some p := by have := HAT.out; rw [List.getElem?_eq_getElem hl1] at this; exact this
    obtain ⟨x, hx, h2, hk1⟩ := HV.out.calm _ (List.getElem_mem hl1) p hatw
    have hv : (subT t p).isSome = true := by rw [hx]; rfl
    have hlt := nm_lt hv
    have hlf : (partP t p).leaf = (lfP t p : Int) := by rw [partP_leaf hx h2 hk1]
    have hlfb : lfP t p ≤ (nodesT t).length := lf_le hv
    obtain ⟨L, hLL⟩ : ∃ L, L = (nodesT t).length := ⟨_, rfl⟩
    obtain ⟨f, hf⟩ : ∃ f, f = lfP t p := ⟨_, rfl⟩
    have x0 := BX2.cell 0 _ rfl
    have c0 := HYU.out.hd.cell 0 _ rfl
    have c4 := HYU.out.hd.cell 4 _ rfl
    have cl := HYU.out.part hv 1 rfl
    simp only [hlf] at cl
    rw [← HM.out, ← hf] at cl
    rw [← HM.out] at hlt
    rw [← hLL] at c0 hlt
    obtain ⟨Ao, co, hodf⟩ := HYU.out.dn.form
    subst hodf
    have HF := Lib.hid hf
    have HVV := Lib.hid hv
    have hf63 : f < 4611686018427387904 := by rw [hf]; omega
    have HF63 := Lib.hid hf63
    have HFX := Lib.hid (show f = lfP t p from hf)
    clear hatw hx h2 hk1 hv hlf hlfb hLL hf hf63 hl1
    obtain ⟨i0, hi, hz0, hz1, hz2⟩ := info_parts infoDn
    have hyU := HYU.out.hd.lt
    have hgU := HYU.out.ps.lt
    have hbU := BX2.lt
    have HK := Lib.hid (But.of_below (T := Nowhere) (((Below.refl U.heap.size U).alloc (Nat.le_refl _) (.cells [.int .i64 (wk : Int), .int .i64 (f : Int)].toArray 34)).drew))
    have HLB : Hid (Below U.heap.size U ((U.alloc (.cells [.int .i64 (wk : Int), .int .i64 (f : Int)].toArray 34)).drew)) := Lib.hid ((Below.refl U.heap.size U).alloc (Nat.le_refl _) (.cells [.int .i64 (wk : Int), .int .i64 (f : Int)].toArray 34)).drew
    have hRDc : ∀ (q : Nat) (v : Value), (encDn (wk, f))[q]? = some v → (((U.alloc (.cells [.int .i64 (wk : Int), .int .i64 (f : Int)].toArray 34)).drew)).cell? ⟨U.heap.size, q, none⟩ = some v := (Blk.made U [.int .i64 (wk : Int), .int .i64 (f : Int)] 34 (base := 0) (Nat.zero_le _)).drew.cell
    have HRD := Lib.hid (rd_one (enc := encDn) (ok := okDn) (size := 2) (bytes := 16) (S := fun _ => True) (x := (wk, f)) rfl hRDc ⟨by show wk < _; omega, HF63.out⟩ trivial (by decide))
    have HOW := Lib.hid (HYU.out.dn.but (HK.out) (fun _ _ h => h))
    have nb : (Value.slice Ao s.out.length co).ownBlock ≠ some bx := fun e => by have := HOB.out bx e; have := HBXW.out; omega
    have ny : (Value.slice Ao s.out.length co).ownBlock ≠ some y := fun e => by have := HYU.out.co y e; rw [HYU.out.cy] at this; cases this
    have ng : (Value.slice Ao s.out.length co).ownBlock ≠ some gp := fun e => by have := HYU.out.co gp e; rw [HYU.out.cp] at this; cases this
    have fy := (HYU.out.hd.but HK.out (fun h => h)).fr 4
    have hyL := (HYU.out.hd.but HK.out (fun h => h)).lt
    clear hRDc
    have ma1 : s.out.length + 1 ≤ maxLen := by unfold maxLen; omega
    have ma2 : (s.out.length + 1) * 16 ≤ 140737488355328 := by omega
    have HBB : Hid (base ≤ (((U.alloc (.cells [.int .i64 (wk : Int), .int .i64 (f : Int)].toArray 34)).drew)).heap.size) := Lib.hid (Nat.le_trans HYU.out.hd.ge (Nat.le_trans (Nat.le_of_lt hyU) HLB.out.size))
    refine wp_region_pre 18 (S := (fun wx => wx.cell? ⟨bx, 0, none⟩ = some (.int .i64 (wk : Int)) ∧ wx.cell? ⟨y, 0, none⟩ = some (.slice (some ⟨gp, 0, none⟩) L cp) ∧ wx.cell? ⟨y, 4, none⟩ = some (.slice Ao s.out.length co) ∧ wx.cell? ⟨gp, m * 7 + 1, none⟩ = some (.int .i64 (f : Int)))) (by kernel_rfl) (by kernel_rfl) ⟨x0, c0, c4, cl⟩ (fun hHeld => ?_)
    simp only [List.take_succ_cons, List.take_zero]
    refine wpAnyH_take_at (i := 0) (v := ?_) (some 30) rfl rfl (by kernel_rfl) (by kernel_rfl) (by kernel_rfl) (fun _ _ _ h => h) (Or.inl ⟨by rfl, ?_⟩) (by assumption) ?_
    rotate_left
    · (intro w hSw; (try dsimp only at hSw); go_simp; (try with_reducible rfl))
    (try simp only [Act.put, List.setIfInBounds_toArray, List.set_cons_zero, List.set_cons_succ])
    refine wpAnyH_take_at (i := 1) (v := ?_) (some 31) rfl rfl (by kernel_rfl) (by kernel_rfl) (by kernel_rfl) (fun _ _ _ h => h) (Or.inl ⟨by rfl, ?_⟩) (by assumption) ?_
    rotate_left
    · (intro w hSw; (try dsimp only at hSw); go_simp; (try with_reducible rfl))
    (try simp only [Act.put, List.setIfInBounds_toArray, List.set_cons_zero, List.set_cons_succ])
    refine wpAnyH_take_at (i := 2) (v := ?_) (some 32) rfl rfl (by kernel_rfl) (by kernel_rfl) (by kernel_rfl) (fun _ _ _ h => h) (Or.inl ⟨by rfl, ?_⟩) (by assumption) ?_
    rotate_left
    · (intro w hSw; (try dsimp only at hSw); go_simp; (try with_reducible rfl))
    (try simp only [Act.put, List.setIfInBounds_toArray, List.set_cons_zero, List.set_cons_succ])
    refine wpAnyH_take_at (i := 3) (v := ?_) (some 33) rfl rfl (by kernel_rfl) (by kernel_rfl) (by kernel_rfl) (fun _ _ _ h => h) (Or.inl ⟨by rfl, ?_⟩) (by assumption) ?_
    rotate_left
    · (intro w hSw; (try dsimp only at hSw); go_simp; (try with_reducible rfl))
    (try simp only [Act.put, List.setIfInBounds_toArray, List.set_cons_zero, List.set_cons_succ])
    refine wpAnyH_take_at (i := 4) (v := ?_) (some 34) rfl rfl (by kernel_rfl) (by kernel_rfl) (by kernel_rfl) (fun _ _ _ h => h) (Or.inl ⟨by rfl, ?_⟩) (by assumption) ?_
    rotate_left
    · (intro w hSw; (try dsimp only at hSw); go_simp; (try with_reducible rfl))
    (try simp only [Act.put, List.setIfInBounds_toArray, List.set_cons_zero, List.set_cons_succ])
    refine wpAnyH_take_at (i := 5) (v := ?_) (some 35) rfl rfl (by kernel_rfl) (by kernel_rfl) (by kernel_rfl) (fun _ _ _ h => h) (Or.inl ⟨by rfl, ?_⟩) (by assumption) ?_
    rotate_left
    · (intro w hSw; (try dsimp only at hSw); go_simp; (try with_reducible rfl))
    (try simp only [Act.put, List.setIfInBounds_toArray, List.set_cons_zero, List.set_cons_succ])
    refine wpAnyH_take_at (i := 6) (v := ?_) (some 36) rfl rfl (by kernel_rfl) (by kernel_rfl) (by kernel_rfl) (fun _ _ _ h => h) (Or.inl ⟨by rfl, ?_⟩) (by assumption) ?_
    rotate_left
    · (intro w hSw; (try dsimp only at hSw); go_simp; (try with_reducible rfl))
    (try simp only [Act.put, List.setIfInBounds_toArray, List.set_cons_zero, List.set_cons_succ])
    refine wpAnyH_take_at (i := 7) (v := ?_) (some 37) rfl rfl (by kernel_rfl) (by kernel_rfl) (by kernel_rfl) (fun _ _ _ h => h) (Or.inl ⟨by rfl, ?_⟩) (by assumption) ?_
    rotate_left
    · (intro w hSw; (try dsimp only at hSw); go_simp; (try with_reducible rfl))
    (try simp only [Act.put, List.setIfInBounds_toArray, List.set_cons_zero, List.set_cons_succ])
    refine wpAnyH_take_at (i := 8) (v := ?_) (some 38) rfl rfl (by kernel_rfl) (by kernel_rfl) (by kernel_rfl) (fun _ _ _ h => h) (Or.inl ⟨by rfl, ?_⟩) (by assumption) ?_
    rotate_left
    · (intro w hSw; (try dsimp only at hSw); go_simp; (try with_reducible rfl))
    (try simp only [Act.put, List.setIfInBounds_toArray, List.set_cons_zero, List.set_cons_succ])
    refine wpAnyH_take_at (i := 9) (v := ?_) (some 39) rfl rfl (by kernel_rfl) (by kernel_rfl) (by kernel_rfl) (fun _ _ _ h => h) (Or.inl ⟨by rfl, ?_⟩) (by assumption) ?_
    rotate_left
    · (intro w hSw; (try dsimp only at hSw); go_simp; (try with_reducible rfl))
    (try simp only [Act.put, List.setIfInBounds_toArray, List.set_cons_zero, List.set_cons_succ])
    refine wpAnyH_take_at (i := 10) (v := ?_) (some 40) rfl rfl (by kernel_rfl) (by kernel_rfl) (by kernel_rfl) (fun _ _ _ h => h) (Or.inl ⟨by rfl, ?_⟩) (by assumption) ?_
    rotate_left
    · (intro w hSw; (try dsimp only at hSw); go_simp; (try with_reducible rfl))
    (try simp only [Act.put, List.setIfInBounds_toArray, List.set_cons_zero, List.set_cons_succ])
    refine wpAnyH_take_at (i := 11) (v := ?_) (some 41) rfl rfl (by kernel_rfl) (by kernel_rfl) (by kernel_rfl) (fun _ _ _ h => h) (Or.inl ⟨by rfl, ?_⟩) (by assumption) ?_
    rotate_left
    · (intro w hSw; (try dsimp only at hSw); go_simp; (try with_reducible rfl))
    (try simp only [Act.put, List.setIfInBounds_toArray, List.set_cons_zero, List.set_cons_succ])
    refine wpAnyH_take_at (i := 12) (v := ?_) (some 42) rfl rfl (by kernel_rfl) (by kernel_rfl) (by kernel_rfl) (fun _ _ _ h => h) (Or.inl ⟨by rfl, ?_⟩) (by assumption) ?_
    rotate_left
    · (intro w hSw; (try dsimp only at hSw); go_simp; (try with_reducible rfl))
    (try simp only [Act.put, List.setIfInBounds_toArray, List.set_cons_zero, List.set_cons_succ])
    refine wpAnyH_take_at (i := 13) (v := ?_) (some 43) rfl rfl (by kernel_rfl) (by kernel_rfl) (by kernel_rfl) (fun _ _ _ h => h) (Or.inl ⟨by rfl, ?_⟩) (by assumption) ?_
    rotate_left
    · (intro w hSw; (try dsimp only at hSw); go_simp; (try with_reducible rfl))
    (try simp only [Act.put, List.setIfInBounds_toArray, List.set_cons_zero, List.set_cons_succ])
    refine wpAnyH_take_at (i := 14) (v := ?_) (some 44) rfl rfl (by kernel_rfl) (by kernel_rfl) (by kernel_rfl) (fun _ _ _ h => h) (Or.inl ⟨by rfl, ?_⟩) (by assumption) ?_
    rotate_left
    · (intro w hSw; (try dsimp only at hSw); go_simp; (try with_reducible rfl))
    (try simp only [Act.put, List.setIfInBounds_toArray, List.set_cons_zero, List.set_cons_succ])
    refine wpAnyH_take_at (i := 15) (v := ?_) (some 45) rfl rfl (by kernel_rfl) (by kernel_rfl) (by kernel_rfl) (fun _ _ _ h => h) (Or.inl ⟨by rfl, ?_⟩) (by assumption) ?_
    rotate_left
    · (intro w hSw; (try dsimp only at hSw); go_simp; (try with_reducible rfl))
    (try simp only [Act.put, List.setIfInBounds_toArray, List.set_cons_zero, List.set_cons_succ])
    refine wpAnyH_ready (rs := [16]) (by kernel_rfl) (by simp) ?_
    refine AllReadyH.cons rfl (fun K hK => ?_) AllReadyH.nil
    go_simp
    skip
    refine hK.out _ _ ?_ (fun hHeld => ?_)
    · exact ⟨HK.out.cell (fun h => h) x0, HK.out.cell (fun h => h) c0, HK.out.cell (fun h => h) c4, HK.out.cell (fun h => h) cl⟩
    clear hK K
    (try simp only [Act.put, List.setIfInBounds_toArray, List.set_cons_zero, List.set_cons_succ])
    refine wpAnyH_ready (rs := [17]) (by kernel_rfl) (by simp) ?_
    refine AllReadyH.cons rfl (fun K hK => ?_) AllReadyH.nil
    refine step_append_list (by rfl) (.tmp 34) (.tmp 46) 28 (by rfl) (by rfl) (by rfl) i0 _ Try.underlying28 hi hz0 hz1 hz2 rfl (by decide) Flat.keeps (l := s.out) (m := [(wk, f)]) (base := base) (S := Nowhere) (Tx := Nowhere) (U := fun _ => True) (v := .slice Ao s.out.length co) (RdL.bare HRD.out _) HOW.out (Sub.nowhere _) (Sub.nowhere _) not_nowhere oneDn ma1 ma2 HBB.out ?_
    intro v5 w5 ho5 hg5 hd5
    obtain ⟨A5, c5, hv5⟩ := ho5.form
    generalize (s.out ++ [(wk, f)]).length = n5 at hv5
    subst hv5
    refine hK.out _ _ ?_ (fun hHeld => ?_)
    · exact ⟨grown_cell hg5 hHeld.1 nb, grown_cell hg5 hHeld.2.1 ny, grown_cell hg5 hHeld.2.2.1 ny, grown_cell hg5 hHeld.2.2.2 ng⟩
    clear hK K
    (try simp only [Act.put, List.setIfInBounds_toArray])
    refine wpAnyH_done (by kernel_rfl) ?_ _
    unfold QPre
    simp only [List.drop_succ_cons, List.drop_zero]
    have y4 := hHeld.2.2.1
    have f5 := grown_frozen hg5 fy hyL ny
    have HA := Lib.hid (HYU.out.append HLB.out hg5 ho5 hd5)
    clear x0 c0 c4 cl nb ny ng fy hyL ho5 hg5 hd5 HRD HOW HK hi hz0 hz1 hz2 ma1 ma2 hyU hgU hbU
    go_wp2_with fail
    obtain ⟨col1, hA1, hA2, hA3⟩ := HA.out
    have hb1 : But (Yc col) w (w5.setCell ⟨y, 4, none⟩ (.slice A5 n5 c5)) := HBU.out.on hA3 fun b hb hu => by unfold Yc at *; rw [← HC0.out b hb]; exact hu
    have hbl : bx < U.heap.size := BX2.lt
    have hc1 : col1 bx = 4 := (hA2 bx hbl).trans (HC4.out bx (Nat.le_of_eq HBXW.out.symm))
    have hyb : y ≠ bx := fun e => by rw [← e] at hc1; rw [hA1.cy] at hc1; cases hc1
    have x0 : (w5.setCell ⟨y, 4, none⟩ (.slice A5 n5 c5)).cell? ⟨bx, 0, none⟩ = some (.int .i64 (wk : Int)) := by
      rw [World.cell?_setCell_other _ _ _ _ (fun h => hyb (by injection h))]; exact hHeld.1
    have HY6 := Lib.hid hA1
    have HC6 := Lib.hid (show ∀ b, b < w.heap.size → col1 b = col b from fun b hb => (hA2 b (Nat.lt_of_lt_of_le hb HSU.out)).trans (HC0.out b hb))
    have HB6 := Lib.hid hb1
    have HC1 := Lib.hid hc1
    clear hA1 hA2 hA3 hb1 hc1 hbl HA hHeld y4 f5
    generalize w5.setCell ⟨y, 4, none⟩ (.slice A5 n5 c5) = W6 at *
    have c2 := HY6.out.hd.cell 2 _ rfl
    have HE := Lib.hid (HEND.out (.slice A5 n5 c5) p HVV.out)
    rw [← HM.out] at HE
    have hbl6 : bx < W6.heap.size := World.block_lt_of_cell? W6 _ x0
    refine wp_region_pre 11 (S := (fun wx => wx.cell? ⟨y, 2, none⟩ = some (.slice (some ⟨ga, 0, none⟩) k ca) ∧ wx.cell? ⟨bx, 0, none⟩ = some (.int .i64 (wk : Int)))) (by kernel_rfl) (by kernel_rfl) ⟨c2, x0⟩ (fun hHeld => ?_)
    simp only [List.take_succ_cons, List.take_zero]
    refine wpAnyH_take_at (i := 0) (v := ?_) (some 50) rfl rfl (by kernel_rfl) (by kernel_rfl) (by kernel_rfl) (fun _ _ _ h => h) (Or.inl ⟨by rfl, ?_⟩) (by assumption) ?_
    rotate_left
    · (intro w hSw; (try dsimp only at hSw); go_simp; (try with_reducible rfl))
    (try simp only [Act.put, List.setIfInBounds_toArray, List.set_cons_zero, List.set_cons_succ])
    refine wpAnyH_take_at (i := 1) (v := ?_) (some 51) rfl rfl (by kernel_rfl) (by kernel_rfl) (by kernel_rfl) (fun _ _ _ h => h) (Or.inl ⟨by rfl, ?_⟩) (by assumption) ?_
    rotate_left
    · (intro w hSw; (try dsimp only at hSw); go_simp; (try with_reducible rfl))
    (try simp only [Act.put, List.setIfInBounds_toArray, List.set_cons_zero, List.set_cons_succ])
    refine wpAnyH_take_at (i := 2) (v := ?_) (some 52) rfl rfl (by kernel_rfl) (by kernel_rfl) (by kernel_rfl) (fun _ _ _ h => h) (Or.inl ⟨by rfl, ?_⟩) (by assumption) ?_
    rotate_left
    · (intro w hSw; (try dsimp only at hSw); go_simp; (try with_reducible rfl))
    (try simp only [Act.put, List.setIfInBounds_toArray, List.set_cons_zero, List.set_cons_succ])
    refine wpAnyH_take_at (i := 3) (v := ?_) (some 53) rfl rfl (by kernel_rfl) (by kernel_rfl) (by kernel_rfl) (fun _ _ _ h => h) (Or.inl ⟨by rfl, ?_⟩) (by assumption) ?_
    rotate_left
    · (intro w hSw; (try dsimp only at hSw); go_simp; (try with_reducible rfl))
    (try simp only [Act.put, List.setIfInBounds_toArray, List.set_cons_zero, List.set_cons_succ])
    refine wpAnyH_take_at (i := 4) (v := ?_) (some 54) rfl rfl (by kernel_rfl) (by kernel_rfl) (by kernel_rfl) (fun _ _ _ h => h) (Or.inl ⟨by rfl, ?_⟩) (by assumption) ?_
    rotate_left
    · (intro w hSw; (try dsimp only at hSw); go_simp; (try with_reducible rfl))
    (try simp only [Act.put, List.setIfInBounds_toArray, List.set_cons_zero, List.set_cons_succ])
    refine wpAnyH_take_at (i := 5) (v := ?_) (some 55) rfl rfl (by kernel_rfl) (by kernel_rfl) (by kernel_rfl) (fun _ _ _ h => h) (Or.inl ⟨by rfl, ?_⟩) (by assumption) ?_
    rotate_left
    · (intro w hSw; (try dsimp only at hSw); go_simp; (try with_reducible rfl))
    (try simp only [Act.put, List.setIfInBounds_toArray, List.set_cons_zero, List.set_cons_succ])
    refine wpAnyH_take_at (i := 6) (v := ?_) (some 56) rfl rfl (by kernel_rfl) (by kernel_rfl) (by kernel_rfl) (fun _ _ _ h => h) (Or.inl ⟨by rfl, ?_⟩) (by assumption) ?_
    rotate_left
    · (intro w hSw; (try dsimp only at hSw); go_simp; (try with_reducible rfl))
    (try simp only [Act.put, List.setIfInBounds_toArray, List.set_cons_zero, List.set_cons_succ])
    refine wpAnyH_take_at (i := 7) (v := ?_) (some 57) rfl rfl (by kernel_rfl) (by kernel_rfl) (by kernel_rfl) (fun _ _ _ h => h) (Or.inl ⟨by rfl, ?_⟩) (by assumption) ?_
    rotate_left
    · (intro w hSw; (try dsimp only at hSw); go_simp; (try with_reducible rfl))
    (try simp only [Act.put, List.setIfInBounds_toArray, List.set_cons_zero, List.set_cons_succ])
    refine wpAnyH_take_at (i := 8) (v := ?_) (some 58) rfl rfl (by kernel_rfl) (by kernel_rfl) (by kernel_rfl) (fun _ _ _ h => h) (Or.inl ⟨by rfl, ?_⟩) (by assumption) ?_
    rotate_left
    · (intro w hSw; (try dsimp only at hSw); go_simp; (try with_reducible rfl))
    (try simp only [Act.put, List.setIfInBounds_toArray, List.set_cons_zero, List.set_cons_succ])
    refine wpAnyH_take_at (i := 9) (v := ?_) (some 59) rfl rfl (by kernel_rfl) (by kernel_rfl) (by kernel_rfl) (fun _ _ _ h => h) (Or.inl ⟨by rfl, ?_⟩) (by assumption) ?_
    rotate_left
    · (intro w hSw; (try dsimp only at hSw); go_simp; (try with_reducible rfl))
    (try simp only [Act.put, List.setIfInBounds_toArray, List.set_cons_zero, List.set_cons_succ])
    refine wpAnyH_ready (rs := [10]) (by kernel_rfl) (by simp) ?_
    refine AllReadyH.cons rfl (fun K hK => ?_) AllReadyH.nil
    go_simp
    refine (HE.out W6.drew col1 _ (HY6.out.below (Below.refl _ _).drew)).mono ?_
    rintro e w7 ⟨he, col2, hy7, hc7, hb7⟩
    obtain ⟨v4, hv4⟩ : ∃ z, z = numA t (endP t s.dn ((s.qs[wk]?).getD []) p).1 := ⟨_, rfl⟩
    replace he : e = .returned (.int .i64 (numA t (endP t s.dn ((s.qs[wk]?).getD []) p).1)) := he
    rw [← hv4] at he
    subst he
    refine hK.out _ _ ?_ (fun hHeld => ?_)
    · exact ⟨hy7.hd.cell 2 _ rfl, hb7.cell (fun h => h HC1.out) hHeld.2⟩
    clear hK K
    (try simp only [Act.put, List.setIfInBounds_toArray, List.set_cons_zero, List.set_cons_succ])
    refine wpAnyH_done (by kernel_rfl) ?_ _
    unfold QPre
    simp only [List.drop_succ_cons, List.drop_zero]
    have hY8 := hy7.move hwk (endP t s.dn ((s.qs[wk]?).getD []) p).1
    rw [← hv4] at hY8
    have HY8 : Hid (Yd base (w7.setCell ⟨ga, wk, none⟩ (.int .i64 v4)) y col2 t k N gp cp ga ca gq cq ds lv (.slice A5 n5 c5) (endV t s wk p)) := Lib.hid (by rw [HFX.out] at hY8; exact hY8)
    have hga : Yc col2 ga := by unfold Yc; rw [hy7.ca]; decide
    have hgb : ga ≠ bx := fun e => by have := hc7 bx hbl6; rw [HC1.out, ← e, hy7.ca] at this; cases this
    have HB8 : Hid (But (Yc col) w (w7.setCell ⟨ga, wk, none⟩ (.int .i64 v4))) := Lib.hid ((HB6.out.drew.on hb7 fun b hb hu => by unfold Yc at *; rw [← HC6.out b hb]; exact hu).setCell (p := ⟨ga, wk, none⟩) (by unfold Yc; rw [HGA.out.2]; decide) (.int .i64 v4))
    have x7 := hHeld.2
    have x8 : (w7.setCell ⟨ga, wk, none⟩ (.int .i64 v4)).cell? ⟨bx, 0, none⟩ = some (.int .i64 (wk : Int)) := by
      rw [World.cell?_setCell_other _ _ _ _ (fun h => hgb (by injection h))]; exact x7
    have cw := hy7.worker hwk
    have fw := hy7.at_.fr wk
    generalize numA t (((_ : List (Option Pt))[wk]?).getD none) = v0 at cw
    have HC8 := Lib.hid (show ∀ b, b < w.heap.size → col2 b = col b from fun b hb => (hc7 b (Nat.lt_of_lt_of_le hb HB6.out.size)).trans (HC6.out b hb))
    clear hY8 hy7 hc7 hb7 hv4 hHeld c2 hga hgb x0
    go_wp2_with fail
    refine (HSET.out (.slice A5 n5 c5) _ col2 _ HY8.out (end_at HV.out hwk HAT.out)).mono ?_
    rintro e w9 ⟨rfl, col3, hy9, hc9, hb9⟩
    have HFIN : Hid (PkR base y t k N gp cp ga ca gq cq ds lv w col (pickV t s (wk : Int) whom) w9) := Lib.hid (PkR.on HC8.out HB8.out ⟨col3, _, by rw [HP.out]; have e : actV t s wk whom = endV t s wk p := (by unfold actV; rw [HAT.out]); rw [e]; exact hy9, hc9, hb9⟩)
    clear hy9 hc9 hb9 cw fw x7 x8
    go_wp2
    go_end0
    exact ⟨rfl, HFIN.out⟩
  | none =>
    rw [hat] at cw
    replace cw : V.cell? ⟨ga, wk, none⟩ = some (.int .i64 (-1)) := cw
    have HAT := Lib.hid hat
    clear hat
    go_wp2_with fail
    go_quiet (fail)
    have HYU := Lib.hid (HYV.out.below (below_drewN (Below.refl _ V) ‹Nat›))
    have HBU := Lib.hid (HBV.out.drewN ‹Nat›)
    have HSU := Lib.hid (show w.heap.size ≤ (V.drewN ‹Nat›).heap.size from HSZ.out)
    have BX2 := BX1.drewN ‹Nat›
    generalize V.drewN ‹Nat› = U at *
    clear x0 c2 cw BX1 HYV HBV HSZ
    go_wp2_with fail
    have x0 := BX2.cell 0 _ rfl
    have x1 := BX2.cell 1 _ rfl
    have c2 := HYU.out.hd.cell 2 _ rfl
    by_cases hc : 0 ≤ whom ∧ whom < (k : Int) ∧ whom ≠ (wk : Int)
    · obtain ⟨g0, g1, g2⟩ := hc
      obtain ⟨v, rfl⟩ : ∃ v : Nat, whom = (v : Int) := ⟨whom.toNat, by omega⟩
      have hvk : v < k := by omega
      have hvw : v ≠ wk := by omega
      have hd2 : ((v : Int) == (wk : Int)) = false := by simp; omega
      clear g0 g2
      go_quiet (fail)
      have HYT := Lib.hid (HYU.out.below (below_drewN (Below.refl _ U) ‹Nat›))
      have HBT := Lib.hid (HBU.out.drewN ‹Nat›)
      have HST := Lib.hid (show w.heap.size ≤ (U.drewN ‹Nat›).heap.size from HSU.out)
      have BX3 := BX2.drewN ‹Nat›
      generalize U.drewN ‹Nat› = T at *
      clear x0 x1 c2 BX2 HYU HBU HSU hd2
      go_wp2_with fail
      have HACT := Lib.hid (show actV t s wk (v : Int) = stealV s wk v by
        unfold actV
        rw [HAT.out]
        show (if 0 ≤ (v : Int) ∧ (v : Int) < s.at_.length ∧ (v : Int) ≠ wk then stealV s wk (v : Int).toNat else s) = _
        rw [if_pos (by rw [HV.out.la]; omega)]
        rfl)
      have HVS := Lib.hid (steal_at HV.out hwk hvk hvw HAT.out)
      have HBX4 := Lib.hid (HC4.out bx (Nat.le_of_eq HBXW.out.symm))
      obtain ⟨X, d, hd1, hq, hcx, hcd⟩ := HYT.out.deque hvk
      have x0 := BX3.cell 0 _ rfl
      have x1 := BX3.cell 1 _ rfl
      have c3 := HYT.out.hd.cell 3 _ rfl
      have hvk2 : (v : Int) < (k : Int) := by omega
      have HD1 := Lib.hid hd1
      have HX := Lib.hid hcx
      have HQD := Lib.hid (hq.but (T := Nowhere) ((But.refl _ T).drew) (fun _ _ h => h))
      have nbx : ¬ X bx := fun h => by have h2 := hcx bx h; have h4 := HBX4.out; omega
      have ny : ¬ X y := fun h => by have := hcx y h; rw [HYT.out.cy] at this; omega
      have ngq : ¬ X gq := fun h => by have := hcx gq h; rw [HYT.out.cq] at this; omega
      clear hq hd1 hcx
      have hqc : (s.qs[v]?).getD [] = [] ∨ ∃ x r, (s.qs[v]?).getD [] = x :: r := by
        cases (s.qs[v]?).getD [] with
        | nil => exact .inl rfl
        | cons x r => exact .inr ⟨x, r, rfl⟩
      rcases hqc with hqn | ⟨x, r, hqx⟩
      · have HSL := Lib.hid (show stealV s wk v = s by unfold stealV; rw [hqn])
        have HQN : Hid (DqAt base T.drew d X N []) := Lib.hid (by have := HQD.out; rw [hqn] at this; exact this)
        clear hqn HQD
        refine wp_region_pre 13 (S := (fun wx => wx.cell? ⟨y, 3, none⟩ = some (.slice (some ⟨gq, 0, none⟩) k cq) ∧ wx.cell? ⟨bx, 1, none⟩ = some (.int .i64 (v : Int)) ∧ wx.cell? ⟨gq, v, none⟩ = some (.pointer (some ⟨d, 0, none⟩)))) (by kernel_rfl) (by kernel_rfl) ⟨c3, x1, hcd⟩ (fun hHeld => ?_)
        simp only [List.take_succ_cons, List.take_zero]
        refine wpAnyH_take_at (i := 0) (v := ?_) (some 83) rfl rfl (by kernel_rfl) (by kernel_rfl) (by kernel_rfl) (fun _ _ _ h => h) (Or.inl ⟨by rfl, ?_⟩) (by assumption) ?_
        rotate_left
        · (intro w hSw; (try dsimp only at hSw); go_simp; (try with_reducible rfl))
        (try simp only [Act.put, List.setIfInBounds_toArray, List.set_cons_zero, List.set_cons_succ])
        refine wpAnyH_take_at (i := 1) (v := ?_) (some 84) rfl rfl (by kernel_rfl) (by kernel_rfl) (by kernel_rfl) (fun _ _ _ h => h) (Or.inl ⟨by rfl, ?_⟩) (by assumption) ?_
        rotate_left
        · (intro w hSw; (try dsimp only at hSw); go_simp; (try with_reducible rfl))
        (try simp only [Act.put, List.setIfInBounds_toArray, List.set_cons_zero, List.set_cons_succ])
        refine wpAnyH_take_at (i := 2) (v := ?_) (some 85) rfl rfl (by kernel_rfl) (by kernel_rfl) (by kernel_rfl) (fun _ _ _ h => h) (Or.inl ⟨by rfl, ?_⟩) (by assumption) ?_
        rotate_left
        · (intro w hSw; (try dsimp only at hSw); go_simp; (try with_reducible rfl))
        (try simp only [Act.put, List.setIfInBounds_toArray, List.set_cons_zero, List.set_cons_succ])
        refine wpAnyH_take_at (i := 3) (v := ?_) (some 86) rfl rfl (by kernel_rfl) (by kernel_rfl) (by kernel_rfl) (fun _ _ _ h => h) (Or.inl ⟨by rfl, ?_⟩) (by assumption) ?_
        rotate_left
        · (intro w hSw; (try dsimp only at hSw); go_simp; (try with_reducible rfl))
        (try simp only [Act.put, List.setIfInBounds_toArray, List.set_cons_zero, List.set_cons_succ])
        refine wpAnyH_take_at (i := 4) (v := ?_) (some 87) rfl rfl (by kernel_rfl) (by kernel_rfl) (by kernel_rfl) (fun _ _ _ h => h) (Or.inl ⟨by rfl, ?_⟩) (by assumption) ?_
        rotate_left
        · (intro w hSw; (try dsimp only at hSw); go_simp; (try with_reducible rfl))
        (try simp only [Act.put, List.setIfInBounds_toArray, List.set_cons_zero, List.set_cons_succ])
        refine wpAnyH_take_at (i := 5) (v := ?_) (some 88) rfl rfl (by kernel_rfl) (by kernel_rfl) (by kernel_rfl) (fun _ _ _ h => h) (Or.inl ⟨by rfl, ?_⟩) (by assumption) ?_
        rotate_left
        · (intro w hSw; (try dsimp only at hSw); go_simp; (try with_reducible rfl))
        (try simp only [Act.put, List.setIfInBounds_toArray, List.set_cons_zero, List.set_cons_succ])
        refine wpAnyH_take_at (i := 6) (v := ?_) (some 89) rfl rfl (by kernel_rfl) (by kernel_rfl) (by kernel_rfl) (fun _ _ _ h => h) (Or.inl ⟨by rfl, ?_⟩) (by assumption) ?_
        rotate_left
        · (intro w hSw; (try dsimp only at hSw); go_simp; (try with_reducible rfl))
        (try simp only [Act.put, List.setIfInBounds_toArray, List.set_cons_zero, List.set_cons_succ])
        refine wpAnyH_take_at (i := 7) (v := ?_) (some 90) rfl rfl (by kernel_rfl) (by kernel_rfl) (by kernel_rfl) (fun _ _ _ h => h) (Or.inl ⟨by rfl, ?_⟩) (by assumption) ?_
        rotate_left
        · (intro w hSw; (try dsimp only at hSw); go_simp; (try with_reducible rfl))
        (try simp only [Act.put, List.setIfInBounds_toArray, List.set_cons_zero, List.set_cons_succ])
        refine wpAnyH_ready (rs := [8]) (by kernel_rfl) (by simp) ?_
        refine AllReadyH.cons rfl (fun K hK => ?_) AllReadyH.nil
        go_simp
        refine (steal_nil HQN.out).mono ?_
        rintro e w4 ⟨rfl, rfl⟩
        refine hK.out _ _ ?_ (fun hHeld => ?_)
        · exact hHeld
        clear hK K
        (try simp only [Act.put, List.setIfInBounds_toArray, List.set_cons_zero, List.set_cons_succ])
        refine wpAnyH_take_at (i := 9) (v := ?_) (some 82) rfl rfl (by kernel_rfl) (by kernel_rfl) (by kernel_rfl) (fun _ _ _ h => h) (Or.inl ⟨by rfl, ?_⟩) (by assumption) ?_
        rotate_left
        · (intro w hSw; (try dsimp only at hSw); go_simp; (try with_reducible rfl))
        (try simp only [Act.put, List.setIfInBounds_toArray, List.set_cons_zero, List.set_cons_succ])
        refine wpAnyH_take_at (i := 10) (v := ?_) (some 92) rfl rfl (by kernel_rfl) (by kernel_rfl) (by kernel_rfl) (fun _ _ _ h => h) (Or.inl ⟨by rfl, ?_⟩) (by assumption) ?_
        rotate_left
        · (intro w hSw; (try dsimp only at hSw); go_simp; (try with_reducible rfl))
        (try simp only [Act.put, List.setIfInBounds_toArray, List.set_cons_zero, List.set_cons_succ])
        refine wpAnyH_take_at (i := 11) (v := ?_) (some 93) rfl rfl (by kernel_rfl) (by kernel_rfl) (by kernel_rfl) (fun _ _ _ h => h) (Or.inl ⟨by rfl, ?_⟩) (by assumption) ?_
        rotate_left
        · (intro w hSw; (try dsimp only at hSw); go_simp; (try with_reducible rfl))
        (try simp only [Act.put, List.setIfInBounds_toArray, List.set_cons_zero, List.set_cons_succ])
        refine wpAnyH_take_at (i := 12) (v := ?_) (some 5) rfl rfl (by kernel_rfl) (by kernel_rfl) (by kernel_rfl) (fun _ _ _ h => h) (Or.inl ⟨by rfl, ?_⟩) (by assumption) ?_
        rotate_left
        · (intro w hSw; (try dsimp only at hSw); go_simp; (try with_reducible rfl))
        (try simp only [Act.put, List.setIfInBounds_toArray, List.set_cons_zero, List.set_cons_succ])
        refine wpAnyH_done (by kernel_rfl) ?_ _
        unfold QPre
        simp only [List.drop_succ_cons, List.drop_zero]
        clear hHeld x1 c3 hcd
        go_wp2_with fail
        refine (HSET.out _ _ col0 s (HYT.out.below (Below.refl _ _).drew) (HV.out.at_ hwk)).mono ?_
        rintro e w9 ⟨rfl, col3, hy9, hc9, hb9⟩
        have HFIN : Hid (PkR base y t k N gp cp ga ca gq cq ds lv w col (pickV t s (wk : Int) (v : Int)) w9) := Lib.hid (PkR.on HC0.out HBT.out.drew ⟨col3, _, by rw [HP.out, HACT.out, HSL.out]; exact hy9, hc9, hb9⟩)
        clear hy9 hc9 hb9
        go_wp2
        go_end0
        exact ⟨rfl, HFIN.out⟩
      · have HSL := Lib.hid (show stealV s wk v = ⟨s.at_.set wk (some x), s.qs.set v r, s.dn, s.out⟩ by unfold stealV; rw [hqx])
        have HQX : Hid (DqAt base T.drew d X N ((nmP t x : Int) :: r.map fun p => (nmP t p : Int))) := Lib.hid (by have := HQD.out; rw [hqx] at this; exact this)
        obtain ⟨m, hm⟩ : ∃ m, m = nmP t x := ⟨_, rfl⟩
        rw [← hm] at HQX
        have HM := Lib.hid hm
        clear hqx HQD hm
        refine wp_region_pre 13 (S := (fun wx => wx.cell? ⟨y, 3, none⟩ = some (.slice (some ⟨gq, 0, none⟩) k cq) ∧ wx.cell? ⟨bx, 1, none⟩ = some (.int .i64 (v : Int)) ∧ wx.cell? ⟨gq, v, none⟩ = some (.pointer (some ⟨d, 0, none⟩)))) (by kernel_rfl) (by kernel_rfl) ⟨c3, x1, hcd⟩ (fun hHeld => ?_)
        simp only [List.take_succ_cons, List.take_zero]
        refine wpAnyH_take_at (i := 0) (v := ?_) (some 83) rfl rfl (by kernel_rfl) (by kernel_rfl) (by kernel_rfl) (fun _ _ _ h => h) (Or.inl ⟨by rfl, ?_⟩) (by assumption) ?_
        rotate_left
        · (intro w hSw; (try dsimp only at hSw); go_simp; (try with_reducible rfl))
        (try simp only [Act.put, List.setIfInBounds_toArray, List.set_cons_zero, List.set_cons_succ])
        refine wpAnyH_take_at (i := 1) (v := ?_) (some 84) rfl rfl (by kernel_rfl) (by kernel_rfl) (by kernel_rfl) (fun _ _ _ h => h) (Or.inl ⟨by rfl, ?_⟩) (by assumption) ?_
        rotate_left
        · (intro w hSw; (try dsimp only at hSw); go_simp; (try with_reducible rfl))
        (try simp only [Act.put, List.setIfInBounds_toArray, List.set_cons_zero, List.set_cons_succ])
        refine wpAnyH_take_at (i := 2) (v := ?_) (some 85) rfl rfl (by kernel_rfl) (by kernel_rfl) (by kernel_rfl) (fun _ _ _ h => h) (Or.inl ⟨by rfl, ?_⟩) (by assumption) ?_
        rotate_left
        · (intro w hSw; (try dsimp only at hSw); go_simp; (try with_reducible rfl))
        (try simp only [Act.put, List.setIfInBounds_toArray, List.set_cons_zero, List.set_cons_succ])
        refine wpAnyH_take_at (i := 3) (v := ?_) (some 86) rfl rfl (by kernel_rfl) (by kernel_rfl) (by kernel_rfl) (fun _ _ _ h => h) (Or.inl ⟨by rfl, ?_⟩) (by assumption) ?_
        rotate_left
        · (intro w hSw; (try dsimp only at hSw); go_simp; (try with_reducible rfl))
        (try simp only [Act.put, List.setIfInBounds_toArray, List.set_cons_zero, List.set_cons_succ])
        refine wpAnyH_take_at (i := 4) (v := ?_) (some 87) rfl rfl (by kernel_rfl) (by kernel_rfl) (by kernel_rfl) (fun _ _ _ h => h) (Or.inl ⟨by rfl, ?_⟩) (by assumption) ?_
        rotate_left
        · (intro w hSw; (try dsimp only at hSw); go_simp; (try with_reducible rfl))
        (try simp only [Act.put, List.setIfInBounds_toArray, List.set_cons_zero, List.set_cons_succ])
        refine wpAnyH_take_at (i := 5) (v := ?_) (some 88) rfl rfl (by kernel_rfl) (by kernel_rfl) (by kernel_rfl) (fun _ _ _ h => h) (Or.inl ⟨by rfl, ?_⟩) (by assumption) ?_
        rotate_left
        · (intro w hSw; (try dsimp only at hSw); go_simp; (try with_reducible rfl))
        (try simp only [Act.put, List.setIfInBounds_toArray, List.set_cons_zero, List.set_cons_succ])
        refine wpAnyH_take_at (i := 6) (v := ?_) (some 89) rfl rfl (by kernel_rfl) (by kernel_rfl) (by kernel_rfl) (fun _ _ _ h => h) (Or.inl ⟨by rfl, ?_⟩) (by assumption) ?_
        rotate_left
        · (intro w hSw; (try dsimp only at hSw); go_simp; (try with_reducible rfl))
        (try simp only [Act.put, List.setIfInBounds_toArray, List.set_cons_zero, List.set_cons_succ])
        refine wpAnyH_take_at (i := 7) (v := ?_) (some 90) rfl rfl (by kernel_rfl) (by kernel_rfl) (by kernel_rfl) (fun _ _ _ h => h) (Or.inl ⟨by rfl, ?_⟩) (by assumption) ?_
        rotate_left
        · (intro w hSw; (try dsimp only at hSw); go_simp; (try with_reducible rfl))
        (try simp only [Act.put, List.setIfInBounds_toArray, List.set_cons_zero, List.set_cons_succ])
        refine wpAnyH_ready (rs := [8]) (by kernel_rfl) (by simp) ?_
        refine AllReadyH.cons rfl (fun K hK => ?_) AllReadyH.nil
        go_simp
        refine (steal_cons HQX.out HN.out).mono ?_
        rintro e w4 ⟨rfl, hq4, hb4⟩
        refine hK.out _ _ ?_ (fun hHeld => ?_)
        · exact ⟨hb4.cell ny hHeld.1, hb4.cell nbx hHeld.2.1, hb4.cell ngq hHeld.2.2⟩
        clear hK K
        (try simp only [Act.put, List.setIfInBounds_toArray, List.set_cons_zero, List.set_cons_succ])
        refine wpAnyH_take_at (i := 9) (v := ?_) (some 82) rfl rfl (by kernel_rfl) (by kernel_rfl) (by kernel_rfl) (fun _ _ _ h => h) (Or.inl ⟨by rfl, ?_⟩) (by assumption) ?_
        rotate_left
        · (intro w hSw; (try dsimp only at hSw); go_simp; (try with_reducible rfl))
        (try simp only [Act.put, List.setIfInBounds_toArray, List.set_cons_zero, List.set_cons_succ])
        refine wpAnyH_take_at (i := 10) (v := ?_) (some 92) rfl rfl (by kernel_rfl) (by kernel_rfl) (by kernel_rfl) (fun _ _ _ h => h) (Or.inl ⟨by rfl, ?_⟩) (by assumption) ?_
        rotate_left
        · (intro w hSw; (try dsimp only at hSw); go_simp; (try with_reducible rfl))
        (try simp only [Act.put, List.setIfInBounds_toArray, List.set_cons_zero, List.set_cons_succ])
        refine wpAnyH_take_at (i := 11) (v := ?_) (some 93) rfl rfl (by kernel_rfl) (by kernel_rfl) (by kernel_rfl) (fun _ _ _ h => h) (Or.inl ⟨by rfl, ?_⟩) (by assumption) ?_
        rotate_left
        · (intro w hSw; (try dsimp only at hSw); go_simp; (try with_reducible rfl))
        (try simp only [Act.put, List.setIfInBounds_toArray, List.set_cons_zero, List.set_cons_succ])
        refine wpAnyH_take_at (i := 12) (v := ?_) (some 5) rfl rfl (by kernel_rfl) (by kernel_rfl) (by kernel_rfl) (fun _ _ _ h => h) (Or.inl ⟨by rfl, ?_⟩) (by assumption) ?_
        rotate_left
        · (intro w hSw; (try dsimp only at hSw); go_simp; (try with_reducible rfl))
        (try simp only [Act.put, List.setIfInBounds_toArray, List.set_cons_zero, List.set_cons_succ])
        refine wpAnyH_done (by kernel_rfl) ?_ _
        unfold QPre
        simp only [List.drop_succ_cons, List.drop_zero]
        have x4 : w4.cell? ⟨bx, 0, none⟩ = some (.int .i64 (wk : Int)) := hb4.cell nbx x0
        have HY4 := Lib.hid ((HYT.out.below (Below.refl _ _).drew).queue hvk HD1.out HX.out hb4 hq4 (fun _ _ => rfl) HX.out)
        have HB4 : Hid (But (Yc col) w w4) := Lib.hid (HBT.out.drew.on hb4 fun b hb hu => by have := HX.out b hu; rw [HC0.out b hb] at this; unfold Yc; omega)
        clear hHeld x0 x1 c3 hcd hq4 hb4
        go_wp2_with fail
        have c2 := HY4.out.hd.cell 2 _ rfl
        refine wp_region_pre 7 (S := (fun wx => wx.cell? ⟨y, 2, none⟩ = some (.slice (some ⟨ga, 0, none⟩) k ca) ∧ wx.cell? ⟨bx, 0, none⟩ = some (.int .i64 (wk : Int)))) (by kernel_rfl) (by kernel_rfl) ⟨c2, x4⟩ (fun hHeld => ?_)
        simp only [List.take_succ_cons, List.take_zero]
        refine wpAnyH_take_at (i := 0) (v := ?_) (some 95) rfl rfl (by kernel_rfl) (by kernel_rfl) (by kernel_rfl) (fun _ _ _ h => h) (Or.inl ⟨by rfl, ?_⟩) (by assumption) ?_
        rotate_left
        · (intro w hSw; (try dsimp only at hSw); go_simp; (try with_reducible rfl))
        (try simp only [Act.put, List.setIfInBounds_toArray, List.set_cons_zero, List.set_cons_succ])
        refine wpAnyH_take_at (i := 1) (v := ?_) (some 96) rfl rfl (by kernel_rfl) (by kernel_rfl) (by kernel_rfl) (fun _ _ _ h => h) (Or.inl ⟨by rfl, ?_⟩) (by assumption) ?_
        rotate_left
        · (intro w hSw; (try dsimp only at hSw); go_simp; (try with_reducible rfl))
        (try simp only [Act.put, List.setIfInBounds_toArray, List.set_cons_zero, List.set_cons_succ])
        refine wpAnyH_take_at (i := 2) (v := ?_) (some 97) rfl rfl (by kernel_rfl) (by kernel_rfl) (by kernel_rfl) (fun _ _ _ h => h) (Or.inl ⟨by rfl, ?_⟩) (by assumption) ?_
        rotate_left
        · (intro w hSw; (try dsimp only at hSw); go_simp; (try with_reducible rfl))
        (try simp only [Act.put, List.setIfInBounds_toArray, List.set_cons_zero, List.set_cons_succ])
        refine wpAnyH_take_at (i := 3) (v := ?_) (some 98) rfl rfl (by kernel_rfl) (by kernel_rfl) (by kernel_rfl) (fun _ _ _ h => h) (Or.inl ⟨by rfl, ?_⟩) (by assumption) ?_
        rotate_left
        · (intro w hSw; (try dsimp only at hSw); go_simp; (try with_reducible rfl))
        (try simp only [Act.put, List.setIfInBounds_toArray, List.set_cons_zero, List.set_cons_succ])
        refine wpAnyH_take_at (i := 4) (v := ?_) (some 99) rfl rfl (by kernel_rfl) (by kernel_rfl) (by kernel_rfl) (fun _ _ _ h => h) (Or.inl ⟨by rfl, ?_⟩) (by assumption) ?_
        rotate_left
        · (intro w hSw; (try dsimp only at hSw); go_simp; (try with_reducible rfl))
        (try simp only [Act.put, List.setIfInBounds_toArray, List.set_cons_zero, List.set_cons_succ])
        refine wpAnyH_take_at (i := 5) (v := ?_) (some 100) rfl rfl (by kernel_rfl) (by kernel_rfl) (by kernel_rfl) (fun _ _ _ h => h) (Or.inl ⟨by rfl, ?_⟩) (by assumption) ?_
        rotate_left
        · (intro w hSw; (try dsimp only at hSw); go_simp; (try with_reducible rfl))
        (try simp only [Act.put, List.setIfInBounds_toArray, List.set_cons_zero, List.set_cons_succ])
        refine wpAnyH_take_at (i := 6) (v := ?_) (some 101) rfl rfl (by kernel_rfl) (by kernel_rfl) (by kernel_rfl) (fun _ _ _ h => h) (Or.inl ⟨by rfl, ?_⟩) (by assumption) ?_
        rotate_left
        · (intro w hSw; (try dsimp only at hSw); go_simp; (try with_reducible rfl))
        (try simp only [Act.put, List.setIfInBounds_toArray, List.set_cons_zero, List.set_cons_succ])
        refine wpAnyH_done (by kernel_rfl) ?_ _
        unfold QPre
        simp only [List.drop_succ_cons, List.drop_zero]
        have HY5 := Lib.hid (HY4.out.below (Below.refl _ _).drew)
        have hY6 := HY5.out.move hwk (some x)
        rw [show numA t (some x) = (nmP t x : Int) from rfl, ← HM.out] at hY6
        have HY6 := Lib.hid (show Yd base ((w4.setCell ⟨ga, wk, none⟩ (.int .i64 (m : Int))).drew) y col0 t k N gp cp ga ca gq cq ds lv od _ from hY6)
        have HB6 := Lib.hid (show But (Yc col) w ((w4.setCell ⟨ga, wk, none⟩ (.int .i64 (m : Int))).drew) from (HB4.out.drew).setCell (p := ⟨ga, wk, none⟩) (by unfold Yc; rw [HGA.out.2]; decide) (.int .i64 (m : Int)))
        have hgb : ga ≠ bx := fun e => by have h2 := HBX4.out; rw [← e, HYT.out.ca] at h2; cases h2
        have x8 : (((w4.setCell ⟨ga, wk, none⟩ (.int .i64 (m : Int))).drew)).cell? ⟨bx, 0, none⟩ = some (.int .i64 (wk : Int)) := by
          show (w4.setCell ⟨ga, wk, none⟩ (.int .i64 (m : Int))).cell? ⟨bx, 0, none⟩ = _
          rw [World.cell?_setCell_other _ _ _ _ (fun h => hgb (by injection h))]; exact x4
        have cw := HY5.out.worker hwk
        have fw := HY5.out.at_.fr wk
        generalize numA t (((_ : List (Option Pt))[wk]?).getD none) = v0 at cw
        clear hHeld hY6 c2 hgb HY5 HY4
        go_wp2_with fail
        refine (HSET.out _ _ col0 _ HY6.out (by have := HVS.out; rw [HSL.out] at this; exact this)).mono ?_
        rintro e w9 ⟨rfl, col3, hy9, hc9, hb9⟩
        have HFIN : Hid (PkR base y t k N gp cp ga ca gq cq ds lv w col (pickV t s (wk : Int) (v : Int)) w9) := Lib.hid (PkR.on HC0.out HB6.out ⟨col3, _, by rw [HP.out, HACT.out, HSL.out]; exact hy9, hc9, hb9⟩)
        clear hy9 hc9 hb9 cw fw x8 x4
        go_wp2
        go_end0
        exact ⟨rfl, HFIN.out⟩
    · have HACT := Lib.hid (show actV t s wk whom = s by
        unfold actV
        rw [HAT.out]
        show (if 0 ≤ whom ∧ whom < s.at_.length ∧ whom ≠ wk then stealV s wk whom.toNat else s) = _
        rw [if_neg (by rw [HV.out.la]; exact hc)])
      by_cases g0 : whom < 0
      · have hd : decide (0 ≤ whom) = false := decide_eq_false (by omega)
        go_quiet (fail)
        have HYT := Lib.hid (HYU.out.below (below_drewN (Below.refl _ U) ‹Nat›))
        have HBT := Lib.hid (HBU.out.drewN ‹Nat›)
        have BX3 := BX2.drewN ‹Nat›
        generalize U.drewN ‹Nat› = T at *
        clear x0 x1 c2 BX2 HYU HBU
        have x0 := BX3.cell 0 _ rfl
        go_wp2_with fail
        refine (HSET.out _ _ col0 s HYT.out (HV.out.at_ hwk)).mono ?_
        rintro e w9 ⟨rfl, col3, hy9, hc9, hb9⟩
        have HFIN := Lib.hid (PkR.on HC0.out HBT.out (⟨col3, _, hy9, hc9, hb9⟩ : PkR base y t k N gp cp ga ca gq cq ds lv T col0 (calmW t s wk) w9))
        rw [← HACT.out, ← HP.out] at HFIN
        clear hy9 hc9 hb9
        go_wp2
        go_end0
        exact ⟨rfl, HFIN.out⟩
      · by_cases g1 : (k : Int) ≤ whom
        · have hd : decide (0 ≤ whom) = true := decide_eq_true (by omega)
          have hd1 : decide (whom < (k : Int)) = false := decide_eq_false (by omega)
          go_quiet (fail)
          have HYT := Lib.hid (HYU.out.below (below_drewN (Below.refl _ U) ‹Nat›))
          have HBT := Lib.hid (HBU.out.drewN ‹Nat›)
          have BX3 := BX2.drewN ‹Nat›
          generalize U.drewN ‹Nat› = T at *
          clear x0 x1 c2 BX2 HYU HBU
          have x0 := BX3.cell 0 _ rfl
          go_wp2_with fail
          refine (HSET.out _ _ col0 s HYT.out (HV.out.at_ hwk)).mono ?_
          rintro e w9 ⟨rfl, col3, hy9, hc9, hb9⟩
          have HFIN := Lib.hid (PkR.on HC0.out HBT.out (⟨col3, _, hy9, hc9, hb9⟩ : PkR base y t k N gp cp ga ca gq cq ds lv T col0 (calmW t s wk) w9))
          rw [← HACT.out, ← HP.out] at HFIN
          clear hy9 hc9 hb9
          go_wp2
          go_end0
          exact ⟨rfl, HFIN.out⟩
        · have g2 : whom = (wk : Int) := by omega
          subst g2
          go_quiet (fail)
          have HYT := Lib.hid (HYU.out.below (below_drewN (Below.refl _ U) ‹Nat›))
          have HBT := Lib.hid (HBU.out.drewN ‹Nat›)
          have BX3 := BX2.drewN ‹Nat›
          generalize U.drewN ‹Nat› = T at *
          clear x0 x1 c2 BX2 HYU HBU
          have x0 := BX3.cell 0 _ rfl
          go_wp2_with fail
          refine (HSET.out _ _ col0 s HYT.out (HV.out.at_ hwk)).mono ?_
          rintro e w9 ⟨rfl, col3, hy9, hc9, hb9⟩
          have HFIN := Lib.hid (PkR.on HC0.out HBT.out (⟨col3, _, hy9, hc9, hb9⟩ : PkR base y t k N gp cp ga ca gq cq ds lv T col0 (calmW t s wk) w9))
          rw [← HACT.out, ← HP.out] at HFIN
          clear hy9 hc9 hb9
          go_wp2
          go_end0
          exact ⟨rfl, HFIN.out⟩
end Go.Proofs.Ytbpooepbnnbipaa
