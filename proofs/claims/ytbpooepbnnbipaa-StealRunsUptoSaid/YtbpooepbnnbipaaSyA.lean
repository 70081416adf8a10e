/- The walk of steal.Run. -/
import Derived.Test.YtbpooepbnnbipaaSy9
namespace Go.Proofs.Ytbpooepbnnbipaa
open Go.RowKit
set_option linter.unusedVariables false
def encPk (x : Int × Int) : List Value := [.int .i64 x.1, .int .i64 x.2]
def okPk (x : Int × Int) : Prop := inI x.1 ∧ inI x.2
theorem onePtr {w : World} {S : Blocks} : ∀ (e : Nat) (cs : List Value), Flat encPtr okAny w S e cs → ∀ u ∈ cs, u.oneCell' = true := by
  rintro e cs ⟨rfl, _⟩ u hu
  simp [encPtr] at hu
  subst hu; rfl
theorem infoI3 : (Try.prog.info? 3).map (fun i => (i.zero, i.size, i.bytes)) = some (some (.int .i64 0), 1, 8) := by kernel_rfl
theorem infoPtr : (Try.prog.info? 57).map (fun i => (i.zero, i.size, i.bytes)) = some (some (.pointer none), 1, 8) := by kernel_rfl
theorem pick_out (t : Tm) (s : Vs) (a b : Int) : (pickV t s a b).out.length ≤ s.out.length + 1 := by
  unfold pickV
  split
  · show (actV t s a.toNat b).out.length ≤ _
    unfold actV
    split
    · unfold endV; simp
    · split
      · unfold stealV; split <;> simp
      · simp
  · simp
theorem run_out (t : Tm) (k : Nat) (ps : List (Int × Int)) : (runV t k ps).out.length ≤ ps.length := by
  have h : ∀ (ps : List (Int × Int)) (s : Vs), (ps.foldl (fun s p => pickV t s p.1 p.2) s).out.length ≤ s.out.length + ps.length := by
    intro ps
    induction ps with
    | nil => intro s; simp
    | cons p ps ih =>
      intro s
      have h1 := ih (pickV t s p.1 p.2)
      have h2 := pick_out t s p.1 p.2
      simp only [List.foldl_cons, List.length_cons]
      omega
  have := h ps (startV t k)
  have e : (startV t k).out.length = 0 := rfl
  unfold runV
  omega
/-- workers are out of range -/
def badW (n : Int) : Prop := n < 1 ∨ 16 < n
instance (n : Int) : Decidable (badW n) := by unfold badW; infer_instance
def outR (t : Tm) (n : Int) (ps : List (Int × Int)) : List (Nat × Nat) := if badW n then [] else (runV t n.toNat ps).out
def leftR (t : Tm) (n : Int) (ps : List (Int × Int)) : Int := if badW n then 0 else (t.count : Int) - ((outR t n ps).length : Int)
def errR (n : Int) : Int := if badW n then 2 else 0
/-- what Run answers -/
def RunA (t : Tm) (n : Int) (ps : List (Int × Int)) (w : World) (e : Ending) (w' : World) : Prop :=
  ∃ A c, e = .returned (.tuple #[.slice A (outR t n ps).length c, .int .i64 (leftR t n ps), .int .i64 (errR n)]) ∧ RdL (Flat encDn okDn) 2 16 w' (Plus Nowhere w.heap.size w'.heap.size) (outR t n ps) (.slice A (outR t n ps).length c) ∧ Below w.heap.size w w'
set_option maxHeartbeats 2000000 in
set_option maxRecDepth 100000 in
theorem run_bad (t : Tm) (n : Int) (hn : badW n) (ps : List (Int × Int)) (w : World) (S : Blocks) (V Pv : Value) (r : RdT w S t V) :
    Calls Try.prog 6 #[V, .int .i64 n, Pv] w fun e w' => RunA t n ps w e w' := by
  obtain ⟨kk, c, wr, lb, kids, vk, rfl, rfl, hk, hc, hlb, hkids⟩ := r
  obtain ⟨A, cap, rfl, hcl, hcm, _⟩ := hkids.form
  have HR : Hid (∀ w', Below w.heap.size w w' → RunA (.mk kk c wr lb kids) n ps w (.returned (.tuple #[.slice none 0 0, .int .i64 0, .int .i64 2])) w') := Lib.hid (fun w' hb => by
    have e1 : outR (.mk kk c wr lb kids) n ps = [] := by unfold outR; rw [if_pos hn]
    have e2 : leftR (.mk kk c wr lb kids) n ps = 0 := by unfold leftR; rw [if_pos hn]
    have e3 : errR n = 2 := by unfold errR; rw [if_pos hn]
    unfold RunA
    rw [e1, e2, e3]
    exact ⟨none, 0, rfl, RdL.nil (by simp [maxLen]), hb⟩)
  unfold tmV
  rcases hn with h1 | h1
  · have hd : decide (n < 1) = true := decide_eq_true h1
    clear hkids hk hc hlb
    go_enter Try.func6, Try.ntmps6
    go_wp2
    refine bodyPost_ret (v := .tuple #[.slice none 0 0, .int .i64 0, .int .i64 2]) (by simp [results, Try.results6, go_sem]) rfl ?_
    exact HR.out _ ((Below.refl _ _).alloc (Nat.le_refl _) _)
  · have hd : decide (n < 1) = false := decide_eq_false (by omega)
    clear hkids hk hc hlb
    go_enter Try.func6, Try.ntmps6
    go_wp2
    refine bodyPost_ret (v := .tuple #[.slice none 0 0, .int .i64 0, .int .i64 2]) (by simp [results, Try.results6, go_sem]) rfl ?_
    exact HR.out _ ((Below.refl _ _).alloc (Nat.le_refl _) _)
set_option maxHeartbeats 4000000 in
set_option maxRecDepth 100000 in
theorem run_good (t : Tm) (k : Nat) (hk1 : 1 ≤ k) (hk2 : k ≤ 16) (ps : List (Int × Int)) (w : World) (S : Blocks) (V Pv : Value) (r : RdT w S t V) (hS : Sub S (Upto w.heap.size)) (rp : RdL (Flat encPk okPk) 2 16 w S ps Pv) (hnt : (nodesT t).length ≤ 1099511627776) (hps : ps.length ≤ 4294967296) :
    Calls Try.prog 6 #[V, .int .i64 (k : Int), Pv] w fun e w' => RunA t (k : Int) ps w e w' := by
  have RT := Lib.hid r
  have RP := Lib.hid rp
  obtain ⟨kk, c, wr', lb, kids, vk, rfl, rfl, hk, hc, hlb, hkids⟩ := r
  obtain ⟨A, cap, rfl, hcl, hcm, _⟩ := hkids.form
  obtain ⟨Ap, cp0, rfl, _, _, _⟩ := rp.form
  have HS := Lib.hid hS
  have HNT := Lib.hid hnt
  obtain ⟨T, hT⟩ : ∃ T, T = Tm.mk kk c wr' lb kids := ⟨_, rfl⟩
  rw [← hT] at RT HNT ⊢
  have HT := Lib.hid hT
  unfold tmV at *
  generalize kids.length = n' at *
  clear hkids hk hlb hc rp hS hT hnt
  have h1 : decide ((k : Int) < 1) = false := decide_eq_false (by omega)
  have h2 : decide ((16 : Int) < (k : Int)) = false := decide_eq_false (by omega)
  obtain ⟨i0, hi, hz0, hz1, hz2⟩ := info_parts infoI3
  obtain ⟨j0, hj, hy0, hy1, hy2⟩ := info_parts infoPtr
  go_enter Try.func6, Try.ntmps6
  go_upto_region 4 with (fail)
  change Code.wp _ _ _ _ ((w.alloc (.cells [.int .i64 kk, .int .i64 c, .bool wr', .int .i64 lb, .slice A n' cap].toArray 26)).alloc (.cells [.slice none 0 0, .int .i64 0, .slice none 0 0, .slice none 0 0, .slice none 0 0].toArray 56))
  have BX := (Blk.made w [.int .i64 kk, .int .i64 c, .bool wr', .int .i64 lb, .slice A n' cap] 26 (base := 0) (Nat.zero_le _)).below ((Below.refl _ _).alloc (Nat.le_refl _) (.cells [.slice none 0 0, .int .i64 0, .slice none 0 0, .slice none 0 0, .slice none 0 0].toArray 56))
  have BY := Blk.made (w.alloc (.cells [.int .i64 kk, .int .i64 c, .bool wr', .int .i64 lb, .slice A n' cap].toArray 26)) [.slice none 0 0, .int .i64 0, .slice none 0 0, .slice none 0 0, .slice none 0 0] 56 (Nat.le_refl _)
  have HB0 := Lib.hid (show Below w.heap.size w ((w.alloc (.cells [.int .i64 kk, .int .i64 c, .bool wr', .int .i64 lb, .slice A n' cap].toArray 26)).alloc (.cells [.slice none 0 0, .int .i64 0, .slice none 0 0, .slice none 0 0, .slice none 0 0].toArray 56)) from ((Below.refl _ _).alloc (Nat.le_refl _) _).alloc (by simp) _)
  have hsz : (w.alloc (.cells [.int .i64 kk, .int .i64 c, .bool wr', .int .i64 lb, .slice A n' cap].toArray 26)).heap.size = w.heap.size + 1 := by simp
  rw [hsz] at BY
  obtain ⟨X, hX⟩ : ∃ X, X = w.heap.size := ⟨_, rfl⟩
  obtain ⟨y, hy⟩ : ∃ y, y = w.heap.size + 1 := ⟨_, rfl⟩
  rw [← hy] at BY ⊢
  rw [← hX] at BX ⊢
  have hXy : X < y := by omega
  have HXW := Lib.hid hX
  have HYW := Lib.hid hy
  clear hsz hX hy
  generalize ((w.alloc (.cells [.int .i64 kk, .int .i64 c, .bool wr', .int .i64 lb, .slice A n' cap].toArray 26)).alloc (.cells [.slice none 0 0, .int .i64 0, .slice none 0 0, .slice none 0 0, .slice none 0 0].toArray 56)) = W at *
  have hG0 : Gd y W y (fun b => if b = y then 0 else 4) (.slice none 0 0) (.slice none 0 0) 0 [] := ⟨BY, OwnL.nil _ _ _, OwnL.nil _ _ _, fun i d h => by simp at h, if_pos rfl, (fun b e => by cases e), (fun b e => by cases e), fun b hb => if_neg (by omega)⟩
  have HG0 := Lib.hid (show ∃ va vq ds col, Gd y W y col va vq 0 ds ∧ ds.length = 0 from ⟨_, _, _, _, hG0, rfl⟩)
  have HBX := Lib.hid BX
  clear BY hG0 BX
  go_wp2
  go_loopw [21] (fun i wr => ∃ q : Nat, q ≤ k ∧ i = .int .i64 (q : Int) ∧ Hid (∃ va vq ds col, Gd y wr y col va vq q ds ∧ ds.length = q) ∧ Hid (Blk 0 wr X [.int .i64 kk, .int .i64 c, .bool wr', .int .i64 lb, .slice A n' cap]) ∧ Hid (Below w.heap.size w wr)) (fun i _ => k - (intOf i).toNat)
  case atStart => exact ⟨0, by omega, rfl, HG0, HBX, HB0⟩
  case round =>
    clear HG0 HBX HB0
    obtain ⟨q, hq, rfl, HG, HBX, HB0⟩ := hrel
    by_cases hlt : q < k
    · obtain ⟨va, vq, ds, col, hG, hld⟩ := HG.out
      have HGD := Lib.hid hG
      have HLD := Lib.hid hld
      have d2 := hG.hd.cell 2 _ rfl
      have f2 := hG.hd.fr 2
      have hyl := hG.hd.lt
      have na : va.ownBlock ≠ some y := fun e => by have := hG.ca y e; rw [hG.cy] at this; cases this
      have hqk : (q : Int) < (k : Int) := by omega
      clear hG hld HG
      go_wp2_with (at_builtin; refine wpList_append_one rfl _ _ 39 rfl i0 _ Try.underlying39 hi hz0 hz1 hz2 rfl (by decide) Flat.keeps HGD.out.oa (x := (-1 : Int)) (cs := [.int .i64 (-1)]) (Tx := Nowhere) ?d0 rfl rfl rfl (Sub.nowhere _) (Sub.nowhere _) not_nowhere ?d1 ?d2 ?d3 ?d4 ?_)
      case d0 => exact ⟨rfl, trivial⟩
      case d1 => simp [Value.oneCell']
      case d2 => rw [List.length_replicate]; unfold maxLen; omega
      case d3 => rw [List.length_replicate]; omega
      try (case d4 => exact Nat.le_of_lt hyl)
      intro v5 w5 ho5 hg5 hd5
      obtain ⟨A5, c5, hv5⟩ := ho5.form
      have ho5' : OwnL (Flat encN1 okAny) 1 3 w5 y Nowhere (List.replicate (q + 1) (-1 : Int)) v5 := by rw [List.replicate_succ']; exact ho5
      generalize (List.replicate q (-1 : Int) ++ [-1]).length = n5 at hv5
      have e2 := grown_cell hg5 d2 na
      have f3 := grown_frozen hg5 f2 hyl na
      have HG5 := Lib.hid (HGD.out.place (Below.refl _ _) hg5 ho5' (hd5.imp id (fun e => ⟨_, e, Nat.le_succ _⟩)))
      have hb5 : Below w.heap.size w (w5.setCell ⟨y, 2, none⟩ v5) := by
        have b1 : But (fun b => va.ownBlock = some b ∨ b = y) wr (w5.setCell ⟨y, 2, none⟩ v5) := ((But.of_grown hg5).sub fun b h => .inl h).setCell (.inr rfl) v5
        refine HB0.out.trans (b1.below HB0.out.size fun b hb => ?_)
        have := HYW.out
        rcases hb with e | e
        · have := (HGD.out.oa.lt b e).1; omega
        · omega
      have HB5 := Lib.hid hb5
      have HBX5 : Hid (Blk 0 (w5.setCell ⟨y, 2, none⟩ v5) X [.int .i64 kk, .int .i64 c, .bool wr', .int .i64 lb, .slice A n' cap]) := Lib.hid ((HBX.out.but (But.of_grown hg5) (fun e => by have := (HGD.out.oa.lt X e).1; omega)).other (p := ⟨y, 2, none⟩) (fun e => by have e : y = X := e; omega) v5)
      subst hv5
      clear hb5 ho5 ho5' hg5 hd5 d2 f2 hyl na HGD HBX HB0
      go_upto_region 7 with (fail)
      generalize w5.setCell ⟨y, 2, none⟩ (.slice A5 n5 c5) = W5 at *
      clear e2 f3
      obtain ⟨col2, hG5⟩ := HG5.out
      have HGD := Lib.hid hG5
      have hyl := hG5.hd.lt
      have hbel : Below W5.heap.size W5 (W5.alloc (.cells [.slice none 0 0, .int .i64 0, .int .i64 0].toArray 59)) := (Below.refl _ _).alloc (Nat.le_refl _) _
      have d3 := (hG5.below hbel).hd.cell 3 _ rfl
      have d30 := hG5.hd.cell 3 _ rfl
      have f3 := (hG5.below hbel).hd.fr 3
      have hyl2 := (hG5.below hbel).hd.lt
      have HGQ := Lib.hid (hG5.below hbel)
      have HBD := Lib.hid (Blk.made W5 [.slice none 0 0, .int .i64 0, .int .i64 0] 59 (base := y) (Nat.le_of_lt hyl))
      have HBEL := Lib.hid hbel
      have nq : vq.ownBlock ≠ some y := fun e => by have := hG5.cq y e; rw [hG5.cy] at this; cases this
      clear hG5 HG5 hbel
      go_wp2_with (at_builtin; go_loud (refine wpList_append_one rfl _ _ 54 rfl j0 _ Try.underlying54 hj hy0 hy1 hy2 rfl (by decide) Flat.keeps HGQ.out.oq (x := W5.heap.size) (cs := [.pointer (some ⟨W5.heap.size, 0, none⟩)]) (Tx := Nowhere) ?d0 rfl (by simp only [World.size_alloc]; rfl) rfl (Sub.nowhere _) (Sub.nowhere _) not_nowhere ?d1 ?d2 ?d3 ?d4 ?_))
      case d0 => exact ⟨rfl, trivial⟩
      case d1 => simp [Value.oneCell']
      case d2 => rw [HLD.out]; unfold maxLen; omega
      case d3 => rw [HLD.out]; omega
      try (case d4 => exact Nat.le_of_lt hyl2)
      intro v7 w7 ho7 hg7 hd7
      obtain ⟨A7, c7, hv7⟩ := ho7.form
      have hlx : (ds ++ [W5.heap.size]).length = q + 1 := by rw [List.length_append, HLD.out]; rfl
      have HLX := Lib.hid hlx
      rw [hlx] at hv7
      have e3 := grown_cell hg7 d3 nq
      have f7 := grown_frozen hg7 f3 hyl2 nq
      have hszq : (W5.alloc (.cells [.slice none 0 0, .int .i64 0, .int .i64 0].toArray 59)).heap.size = W5.heap.size + 1 := by simp
      have ndq : vq.ownBlock ≠ some W5.heap.size := fun e => by have := (HGD.out.oq.lt _ e).2; omega
      have HG7 := Lib.hid (HGD.out.queue HBEL.out hg7 (Nat.le_refl _) (HBD.out.but (But.of_grown hg7) ndq) ho7 (hd7.imp id (fun e => ⟨_, e, by omega⟩)))
      have hb7 : Below w.heap.size w (w7.setCell ⟨y, 3, none⟩ v7) := by
        have b1 : But (fun b => vq.ownBlock = some b ∨ b = y) W5 (w7.setCell ⟨y, 3, none⟩ v7) := ((But.of_below HBEL.out).trans ((But.of_grown hg7).sub fun b h => .inl h)).setCell (.inr rfl) v7
        refine HB5.out.trans (b1.below HB5.out.size fun b hb => ?_)
        have := HYW.out
        rcases hb with e | e
        · have := (HGD.out.oq.lt b e).1; omega
        · omega
      have HB7 := Lib.hid hb7
      have HBX7 : Hid (Blk 0 (w7.setCell ⟨y, 3, none⟩ v7) X [.int .i64 kk, .int .i64 c, .bool wr', .int .i64 lb, .slice A n' cap]) := Lib.hid (((HBX5.out.below HBEL.out).but (But.of_grown hg7) (fun e => by have := (HGD.out.oq.lt X e).1; omega)).other (p := ⟨y, 3, none⟩) (fun e => by have e : y = X := e; omega) v7)
      subst hv7
      clear hb7 ho7 hg7 hd7 d3 d30 f3 hyl hyl2 nq ndq hszq hlx
      go_wp2_with fail
      go_roundw
      case rel => exact ⟨q + 1, by omega, by go_num, Lib.hid (by obtain ⟨col3, h3⟩ := HG7.out; exact ⟨_, _, _, col3, h3, HLX.out⟩), HBX7, HB7⟩
      case measure => simp [intOf]; omega
    · have hqk : q = k := by omega
      subst hqk
      obtain ⟨va, vq, ds, col, hG, hld⟩ := HG.out
      obtain ⟨ga, ca, hva, _⟩ := hG.oa.rowAt (by rw [List.length_replicate]; omega)
      rw [List.length_replicate] at hva
      subst hva
      have hb0 := HB0.out
      have hSy : Sub S (Upto y) := fun b hb => by have h1 : b < w.heap.size := HS.out b hb; have h2 := HYW.out; show b < y; omega
      have HLAY := Lib.hid (lay_any T y wr.drew y (.slice none 0 0) [] 0 (.slice (some ⟨ga, 0, none⟩) q ca) vq (.slice none 0 0) S _ (-1) false (⟨hG.hd.drew, OwnL.nil _ _ _, by intro e; cases e⟩) hSy (RT.out.go (hb0.drew) HS.out) (by simpa using HNT.out) (by have := count_nodes T; have := HNT.out; omega))
      have HGW := Lib.hid (hG.below ((Below.refl wr.heap.size wr).drew))
      have HLD := Lib.hid hld
      have HQ1 : Hid (0 < q) := Lib.hid (by omega)
      have d2 := hG.hd.cell 2 _ rfl
      have x0 := HBX.out.cell 0 _ rfl; have x1 := HBX.out.cell 1 _ rfl; have x2 := HBX.out.cell 2 _ rfl; have x3 := HBX.out.cell 3 _ rfl; have x4 := HBX.out.cell 4 _ rfl
      have nX : ¬ LyT y (.slice none 0 0) X := fun h => by
        rcases h with e | e
        · omega
        · cases e
      have hq1 : (0 : Int) < (q : Int) := by omega
      clear hG hld HG hb0 hSy hz0 hz1 hz2 hy0 hy1 hy2 hi hj
      go_wp2_with fail
      refine wp_region_pre 7 (S := (fun wx => wx.cell? ⟨y, 2, none⟩ = some (.slice (some ⟨ga, 0, none⟩) q ca) ∧ wx.cell? ⟨X, 0, none⟩ = some (.int .i64 kk) ∧ wx.cell? ⟨X, 1, none⟩ = some (.int .i64 c) ∧ wx.cell? ⟨X, 2, none⟩ = some (.bool wr') ∧ wx.cell? ⟨X, 3, none⟩ = some (.int .i64 lb) ∧ wx.cell? ⟨X, 4, none⟩ = some (.slice A n' cap))) (by kernel_rfl) (by kernel_rfl) ⟨d2, x0, x1, x2, x3, x4⟩ (fun hHeld => ?_)
      simp only [List.take_succ_cons, List.take_zero]
      refine wpAnyH_take_at (i := 0) (v := ?_) (some 44) rfl rfl (by kernel_rfl) (by kernel_rfl) (by kernel_rfl) (fun _ _ _ h => h) (Or.inl ⟨by rfl, ?_⟩) (by assumption) ?_
      rotate_left
      · (intro w hSw; (try dsimp only at hSw); go_simp; (try with_reducible rfl))
      (try simp only [Act.put, List.setIfInBounds_toArray, List.set_cons_zero, List.set_cons_succ])
      refine wpAnyH_take_at (i := 1) (v := ?_) (some 45) rfl rfl (by kernel_rfl) (by kernel_rfl) (by kernel_rfl) (fun _ _ _ h => h) (Or.inl ⟨by rfl, ?_⟩) (by assumption) ?_
      rotate_left
      · (intro w hSw; (try dsimp only at hSw); go_simp; (try with_reducible rfl))
      (try simp only [Act.put, List.setIfInBounds_toArray, List.set_cons_zero, List.set_cons_succ])
      refine wpAnyH_take_at (i := 2) (v := ?_) (some 46) rfl rfl (by kernel_rfl) (by kernel_rfl) (by kernel_rfl) (fun _ _ _ h => h) (Or.inl ⟨by rfl, ?_⟩) (by assumption) ?_
      rotate_left
      · (intro w hSw; (try dsimp only at hSw); go_simp; (try with_reducible rfl))
      (try simp only [Act.put, List.setIfInBounds_toArray, List.set_cons_zero, List.set_cons_succ])
      refine wpAnyH_take_at (i := 3) (v := ?_) (some 47) rfl rfl (by kernel_rfl) (by kernel_rfl) (by kernel_rfl) (fun _ _ _ h => h) (Or.inl ⟨by rfl, ?_⟩) (by assumption) ?_
      rotate_left
      · (intro w hSw; (try dsimp only at hSw); go_simp; (try with_reducible rfl))
      (try simp only [Act.put, List.setIfInBounds_toArray, List.set_cons_zero, List.set_cons_succ])
      refine wpAnyH_take_at (i := 4) (v := ?_) (some 48) rfl rfl (by kernel_rfl) (by kernel_rfl) (by kernel_rfl) (fun _ _ _ h => h) (Or.inl ⟨by rfl, ?_⟩) (by assumption) ?_
      rotate_left
      · (intro w hSw; (try dsimp only at hSw); go_simp; (try with_reducible rfl))
      (try simp only [Act.put, List.setIfInBounds_toArray, List.set_cons_zero, List.set_cons_succ])
      refine wpAnyH_take_at (i := 5) (v := ?_) (some 49) rfl rfl (by kernel_rfl) (by kernel_rfl) (by kernel_rfl) (fun _ _ _ h => h) (Or.inl ⟨by rfl, ?_⟩) (by assumption) ?_
      rotate_left
      · (intro w hSw; (try dsimp only at hSw); go_simp; (try with_reducible rfl))
      (try simp only [Act.put, List.setIfInBounds_toArray, List.set_cons_zero, List.set_cons_succ])
      refine wpAnyH_ready (rs := [6]) (by kernel_rfl) (by simp) ?_
      refine AllReadyH.cons rfl (fun K hK => ?_) AllReadyH.nil
      go_simp
      refine HLAY.out.mono ?_
      rintro e w4 ⟨he, v4, hL4, hN4, hB4⟩
      replace he : e = .returned (.int .i64 0) := he
      subst he
      refine hK.out _ _ ?_ (fun hHeld => ?_)
      · exact ⟨hL4.hd.cell 2 _ rfl, hB4.cell nX x0, hB4.cell nX x1, hB4.cell nX x2, hB4.cell nX x3, hB4.cell nX x4⟩
      clear hK K
      (try simp only [Act.put, List.setIfInBounds_toArray, List.set_cons_zero, List.set_cons_succ])
      refine wpAnyH_done (by kernel_rfl) ?_ _
      unfold QPre
      simp only [List.drop_succ_cons, List.drop_zero]
      rw [List.nil_append, Nat.zero_add] at hL4
      obtain ⟨gp, cp, ga', ca', gq, cq, col', e1, e2, e3, hY, hlo⟩ := HGW.out.yd (nodesT T).length HQ1.out HLD.out hL4 hN4 hB4
      injection e2 with e2 _ e2'
      injection e2 with e2
      injection e2 with e2
      subst e2 e2'
      have HBW4 := Lib.hid (show Below w.heap.size w (w4.setCell ⟨ga, 0, none⟩ (.int .i64 0)) from (HB0.out.drew.trans (hB4.below HB0.out.size (fun b hb => by
        have := HYW.out
        rcases hb with e | e
        · omega
        · cases e))).setCell (by have := hY.at_.ge; have := HYW.out; show w.heap.size ≤ ga; omega) _)
      have cw := hY.worker HQ1.out
      have fw := hY.at_.fr 0
      have hY1 : Yd y (w4.setCell ⟨ga, 0, none⟩ (.int .i64 0)) y col' T q (nodesT T).length gp cp ga ca gq cq ds (T.count : Int) (.slice none 0 0) ⟨(List.replicate q none).set 0 (some []), List.replicate q [], fun _ => false, []⟩ := hY.move HQ1.out (some [])
      have HY1 := Lib.hid hY1
      generalize numA T _ = v0 at cw
      clear hL4 hN4 hB4 hY hY1 e1 e3 hHeld d2 x0 x1 x2 x3 x4 HGW HLAY HBX nX
      go_wp2_with fail
      have HLO := Lib.hid hlo
      have hk16 := hk2
      refine (settle_any y y T q (nodesT T).length gp cp ga ca gq cq ds (T.count : Int) (.slice none 0 0) 0 HQ1.out (by have := HNT.out; omega) (Nat.le_refl _) HNT.out hk16 _ col' _ HY1.out (start_at T q HQ1.out)).mono ?_
      rintro e w6 ⟨rfl, col6, hY6, hc6, hb6⟩
      have HY6 : Hid (∃ od col, Yd y w6 y col T q (nodesT T).length gp cp ga ca gq cq ds (T.count : Int) od (runV T q (ps.take 0)) ∧ ∀ b, b < y → col b = 4) := Lib.hid ⟨_, col6, hY6, fun b hb => (hc6 b (by have h1 := HY1.out.hd.lt; omega)).trans (HLO.out b hb)⟩
      have HB6 := Lib.hid (HBW4.out.trans (hb6.below HBW4.out.size (fun b hb => by
        rcases Nat.lt_or_ge b w.heap.size with h | h
        · exact absurd (HLO.out b (by have := HYW.out; omega)) hb
        · exact h)))
      clear hY6 hc6 hb6 HY1 HLO hlo HBW4 cw fw
      go_wp2
      go_loopw [56] (fun i wr => ∃ j : Nat, j ≤ ps.length ∧ i = .int .i64 (j : Int) ∧ Hid (∃ od col, Yd y wr y col T q (nodesT T).length gp cp ga ca gq cq ds (T.count : Int) od (runV T q (ps.take j)) ∧ ∀ b, b < y → col b = 4) ∧ Hid (Below w.heap.size w wr)) (fun i _ => ps.length - (intOf i).toNat)
      case atStart => exact ⟨0, by omega, rfl, HY6, HB6⟩
      case round =>
        clear HY6 HB6 HB0
        obtain ⟨j, hj, rfl, HYJ, HBJ⟩ := hrel
        by_cases hlt2 : j < ps.length
        · obtain ⟨pb, poff, cs, hA, hpb, _, hpc, hcs, hok⟩ := RdL.at_ RP.out hlt2
          subst hcs hA
          obtain ⟨pw, pm, hpe⟩ : ∃ pw pm, ps[j] = (pw, pm) := ⟨ps[j].1, ps[j].2, rfl⟩
          rw [hpe] at hpc
          have HTK : Hid (runV T q (ps.take (j + 1)) = pickV T (runV T q (ps.take j)) pw pm) := Lib.hid (by rw [List.take_succ_eq_append_getElem hlt2, runV_snoc, hpe])
          have hbw := But.of_below (T := Nowhere) HBJ.out
          have p0 : wr.cell? ⟨pb, poff + j * 2, none⟩ = some (.int .i64 pw) := hbw.cell (fun h => h) (hpc 0 _ rfl)
          have p1 : wr.cell? ⟨pb, poff + j * 2 + 1, none⟩ = some (.int .i64 pm) := hbw.cell (p := ⟨pb, poff + j * 2 + 1, none⟩) (fun h => h) (by have := hpc 1 _ rfl; rw [← Nat.add_assoc] at this; exact this)
          have HPK : Hid (PickC y y T q (nodesT T).length gp cp ga ca gq cq ds (T.count : Int) pw pm) := Lib.hid (by
            by_cases h : 0 ≤ pw ∧ pw < (q : Int)
            · obtain ⟨wk, rfl⟩ : ∃ wk : Nat, pw = (wk : Int) := ⟨pw.toNat, by omega⟩
              exact pick_go y y T q (nodesT T).length gp cp ga ca gq cq ds (T.count : Int) (by have := HNT.out; omega) (Nat.le_refl _) HNT.out hk16 wk (by omega) pm
            · exact pick_no y y T q (nodesT T).length gp cp ga ca gq cq ds (T.count : Int) hk16 pw pm h)
          obtain ⟨od, col, hY, hlo⟩ := HYJ.out
          have HY := Lib.hid hY
          have HLO := Lib.hid hlo
          have hol : (runV T q (ps.take j)).out.length ≤ 4294967296 := by
            have := run_out T q (ps.take j)
            rw [List.length_take] at this; omega
          have HOL := Lib.hid hol
          have hjj : (j : Int) < (ps.length : Int) := by omega
          clear hpc hpe hbw hY hlo HYJ hok hol
          go_wp2_with fail
          have bel : Below wr.heap.size wr (wr.alloc (.cells #[.int .i64 pw, .int .i64 pm] 63)) := (Below.refl _ _).alloc (Nat.le_refl _) _
          refine (HPK.out _ col od _ (HY.out.below bel) (run_ok T q HQ1.out _) HOL.out).mono ?_
          rintro e w9 ⟨rfl, col9, od9, hY9, hc9, hb9⟩
          have HY9 : Hid (∃ od col, Yd y w9 y col T q (nodesT T).length gp cp ga ca gq cq ds (T.count : Int) od (runV T q (ps.take (j + 1))) ∧ ∀ b, b < y → col b = 4) := Lib.hid ⟨od9, col9, by rw [HTK.out]; exact hY9, fun b hb => (hc9 b (by have h1 := (HY.out.below bel).hd.lt; omega)).trans (HLO.out b hb)⟩
          have hb8 := HBJ.out.trans (bel.mono HBJ.out.size)
          have HB9 := Lib.hid (hb8.trans (hb9.below hb8.size (fun b hb => by
            rcases Nat.lt_or_ge b w.heap.size with h | h
            · exact absurd (HLO.out b (by have := HYW.out; omega)) hb
            · exact h)))
          clear hY9 hc9 hb9 bel hb8 p0 p1 HY HLO
          go_wp2_with fail
          go_roundw
          case rel => exact ⟨j + 1, by omega, by go_num, HY9, HB9⟩
          case measure => simp [intOf]; omega
        · have hjp : j = ps.length := by omega
          subst hjp
          obtain ⟨od, col, hY, hlo⟩ := HYJ.out
          rw [List.take_length] at hY
          obtain ⟨Ao, co, hod⟩ := hY.dn.form
          subst hod
          have hnb : ¬ badW (q : Int) := by unfold badW; omega
          have HOUT : Hid (outR T (q : Int) ps = (runV T q ps).out) := Lib.hid (by unfold outR; rw [if_neg hnb]; rfl)
          have HLEFT : Hid (leftR T (q : Int) ps = (T.count : Int) - ((runV T q ps).out.length : Int)) := Lib.hid (by unfold leftR; rw [if_neg hnb, HOUT.out])
          have HERR : Hid (errR (q : Int) = 0) := Lib.hid (by unfold errR; rw [if_neg hnb])
          have HY := Lib.hid hY
          have hol := run_out T q ps
          have htc : T.count ≤ 1099511627776 := by have := count_nodes T; have := HNT.out; omega
          have c1 := hY.hd.cell 1 _ rfl
          have c4 := hY.hd.cell 4 _ rfl
          generalize hln : (runV T q ps).out.length = n9 at c4 hol
          have HLN := Lib.hid hln
          have HFIN : Hid (∀ n, RunA T (q : Int) ps w (.returned (.tuple #[.slice Ao n9 co, .int .i64 ((T.count : Int) - (n9 : Int)), .int .i64 0])) (wr.drewN n)) := Lib.hid (fun n => by
            have hd := (HY.out.below (below_drewN (Below.refl wr.heap.size wr) n)).dn.toRd (bytes := 16) (S' := Plus Nowhere w.heap.size (wr.drewN n).heap.size) Flat.keeps (by rw [hln]; omega) (Sub.nowhere _) (fun b h1 h2 => .inr ⟨by have := HYW.out; omega, h2⟩)
            unfold RunA
            rw [HOUT.out, HLEFT.out, HERR.out, hln]
            rw [hln] at hd
            exact ⟨Ao, co, rfl, hd, below_drewN HBJ.out n⟩)
          clear hY hlo HYJ hln hnb
          go_wp2_with fail
          go_quiet (fail)
          go_wp2
          go_ret3
          exact HFIN.out _
end Go.Proofs.Ytbpooepbnnbipaa
