/- Texts merged: Uf2, Uf3. -/
import Derived.Test.YtfldajplclahfaaGUf1
/- The walks of New and of Join. -/
namespace Go.Proofs.Ytfldajplclahfaa
open Go.RowKit
set_option linter.unusedVariables false
theorem infoI : (Try.prog.info? 3).map (fun i => (i.zero, i.size, i.bytes)) = some (some (.int .i64 0), 1, 8) := by kernel_rfl

/-- a row just made -/
theorem made_row (w : World) (n : Nat) (E : TypeId) {q : Nat} {u : Nat} (h : (List.replicate n 0)[q]? = some u) : (w.alloc (.cells (Array.replicate n (.int .i64 0)) E)).cell? ⟨w.heap.size, q, none⟩ = some (.int .i64 (u : Int)) := by
  rw [List.getElem?_replicate] at h
  split at h
  · rename_i hq
    injection h with h; subst h
    have h := heap_alloc_new w (.cells (Array.replicate n (.int .i64 0)) E)
    unfold World.cell?
    simp only [h]
    simp [hq]
  · cases h
theorem frozen_alloc_cells (w : World) (c : Array Value) (E : TypeId) (o : Nat) : (w.alloc (.cells c E)).frozen? ⟨w.heap.size, o, none⟩ = false := by
  have h := heap_alloc_new w (.cells c E)
  unfold World.frozen?
  simp only [h]
  simp
theorem forest_new (w : World) (n : Nat) (hn : n ≤ 1048576) (E F : TypeId) (gu gs : Nat) (h : (gu = w.heap.size ∧ gs = w.heap.size + 1) ∨ (gu = w.heap.size + 1 ∧ gs = w.heap.size)) :
    Forest w.heap.size n (((w.alloc (.cells (Array.replicate n (.int .i64 0)) E)).alloc (.cells (Array.replicate n (.int .i64 0)) E)).alloc (.cells #[.slice (some ⟨gu, 0, none⟩) n n, .slice (some ⟨gs, 0, none⟩) n n] F)) (w.heap.size + 1 + 1) gu gs (List.replicate n 0) (List.replicate n 0) := by
  obtain ⟨w1, hw1⟩ : ∃ w1, w1 = w.alloc (.cells (Array.replicate n (.int .i64 0)) E) := ⟨_, rfl⟩
  have s1 : w1.heap.size = w.heap.size + 1 := by rw [hw1]; simp
  obtain ⟨w2, hw2⟩ : ∃ w2, w2 = w1.alloc (.cells (Array.replicate n (.int .i64 0)) E) := ⟨_, rfl⟩
  have s2 : w2.heap.size = w.heap.size + 1 + 1 := by rw [hw2, World.size_alloc, s1]
  rw [← hw1, ← hw2]
  have r0 : ∀ (q u : Nat), (List.replicate n 0)[q]? = some u → w2.cell? ⟨w.heap.size, q, none⟩ = some (.int .i64 (u : Int)) := fun q u h => by
    rw [hw2, World.cell?_alloc_lt _ _ _ (by rw [s1]; simp), hw1]
    exact made_row w n E h
  have r1 : ∀ (q u : Nat), (List.replicate n 0)[q]? = some u → w2.cell? ⟨w.heap.size + 1, q, none⟩ = some (.int .i64 (u : Int)) := fun q u h => by
    have := made_row w1 n E h
    rw [s1] at this
    rw [hw2]; exact this
  have f0 : ∀ o, w2.frozen? ⟨w.heap.size, o, none⟩ = false := fun o => by
    rw [hw2, frozen_of_block (Below.heap_alloc w1 _ _ (by rw [s1]; omega)), hw1]
    exact frozen_alloc_cells _ _ _ _
  have f1 : ∀ o, w2.frozen? ⟨w.heap.size + 1, o, none⟩ = false := fun o => by
    have := frozen_alloc_cells w1 (Array.replicate n (.int .i64 0)) E o
    rw [s1] at this
    rw [hw2]; exact this
  have c : ∀ (k : Nat) v, #[Value.slice (some ⟨gu, 0, none⟩) n n, .slice (some ⟨gs, 0, none⟩) n n][k]? = some v → (w2.alloc (.cells #[Value.slice (some ⟨gu, 0, none⟩) n n, .slice (some ⟨gs, 0, none⟩) n n] F)).cell? ⟨w.heap.size + 1 + 1, k, none⟩ = some v := fun k v hk => by
    have h := heap_alloc_new w2 (.cells #[Value.slice (some ⟨gu, 0, none⟩) n n, .slice (some ⟨gs, 0, none⟩) n n] F)
    rw [s2] at h
    unfold World.cell?
    simp only [h]
    exact hk
  have lt0 : w.heap.size < w2.heap.size := by omega
  have lt1 : w.heap.size + 1 < w2.heap.size := by omega
  have k0 : ∀ g o v, g < w2.heap.size → w2.cell? ⟨g, o, none⟩ = some v → (w2.alloc (.cells #[Value.slice (some ⟨gu, 0, none⟩) n n, .slice (some ⟨gs, 0, none⟩) n n] F)).cell? ⟨g, o, none⟩ = some v := fun g o v hg hv => by
    rw [World.cell?_alloc_lt _ _ _ hg]; exact hv
  have k1 : ∀ g o, g < w2.heap.size → w2.frozen? ⟨g, o, none⟩ = false → (w2.alloc (.cells #[Value.slice (some ⟨gu, 0, none⟩) n n, .slice (some ⟨gs, 0, none⟩) n n] F)).frozen? ⟨g, o, none⟩ = false := fun g o hg hv => by
    rw [frozen_of_block (Below.heap_alloc w2 _ _ hg)]; exact hv
  have hsz : (w2.alloc (.cells #[Value.slice (some ⟨gu, 0, none⟩) n n, .slice (some ⟨gs, 0, none⟩) n n] F)).heap.size = w.heap.size + 1 + 1 + 1 := by rw [World.size_alloc, s2]
  rcases h with ⟨e1, e2⟩ | ⟨e1, e2⟩
  all_goals
    have hgu : gu < w2.heap.size := by omega
    have hgs : gs < w2.heap.size := by omega
    refine ⟨by simp, by simp, hn, by omega, by omega, by omega, by omega, by omega, by omega, by omega, by omega, by omega, c 0 _ rfl, c 1 _ rfl, fun q u h => k0 _ _ _ hgu ?_, fun q u h => k0 _ _ _ hgs ?_, fun o => k1 _ _ hgu ?_, fun o => k1 _ _ hgs ?_⟩
    all_goals first
      | (rw [e1]; first | exact r0 q u h | exact r1 q u h | exact f0 o | exact f1 o)
      | (rw [e2]; first | exact r0 q u h | exact r1 q u h | exact f0 o | exact f1 o)

set_option maxHeartbeats 1000000 in
theorem new_any (n : Nat) (hn : n ≤ 1048576) (w : World) :
    Calls Try.prog 39 #[.int .i64 (n : Int)] w fun e w' => ∃ b gu gs, e = .returned (.pointer (some ⟨b, 0, none⟩)) ∧ Forest w.heap.size n w' b gu gs (List.range n) (List.replicate n 1) ∧ Below w.heap.size w w' := by
  obtain ⟨i0, hi, hz0, hz1, hz2⟩ := info_parts infoI
  have hmk := fun w => run_make1 (P := Try.prog) 34 3 i0 _ Try.underlying34 hi hz0 hz1 rfl n (by rw [hz2]; omega) (by omega) w
  go_enter Try.func39, Try.ntmps39
  go_upto_region 1 with (fail)
  go_cut [3] (fun x wx => ∃ b gu gs, x = .pointer (some ⟨b, 0, none⟩) ∧ Forest w.heap.size n wx b gu gs (List.replicate n 0) (List.replicate n 0) ∧ Below w.heap.size w wx)
  case first =>
    go_region
    all_goals (try go_wp2_with fail)
    all_goals go_meet
    all_goals go_light
    all_goals first
      | exact ⟨_, _, _, rfl, (forest_new w n hn _ _ _ _ (.inl ⟨rfl, rfl⟩)).drewN 1, ((((Below.refl _ w).alloc (Nat.le_refl _) _).alloc (by simp) _).alloc (by simp; omega) _).drew⟩
      | exact ⟨_, _, _, rfl, (forest_new w n hn _ _ _ _ (.inr ⟨rfl, rfl⟩)).drewN 1, ((((Below.refl _ w).alloc (Nat.le_refl _) _).alloc (by simp) _).alloc (by simp; omega) _).drew⟩
  case rest =>
    obtain ⟨b, gu, gs, rfl, hf, hb⟩ := hcut
    have F := Lib.hid hf
    clear hf
    go_wp2
    go_loopw [12] (fun t wr => ∃ (q : Nat) (up sz : List Nat), t = .int .i64 (q : Int) ∧ q ≤ n ∧ Hid (Forest w.heap.size n wr b gu gs up sz) ∧ Hid (∀ k, k < q → up[k]? = some k ∧ sz[k]? = some 1) ∧ Below w.heap.size w wr) (fun t _ => n - (intOf t).toNat)
    case atStart => exact ⟨0, _, _, rfl, by omega, F, Lib.hid (fun k hk => absurd hk (by omega)), hb⟩
    case round =>
      clear F hb
      obtain ⟨q, up, sz, rfl, hq, F, H, hb⟩ := hrel
      by_cases hlt : q < n
      · have hc0 := F.out.c0
        have hc1 := F.out.c1
        have hlu := F.out.lu
        have hlz := F.out.lz
        have hqu : q < up.length := by omega
        have hqz : q < sz.length := by omega
        obtain ⟨x, hx⟩ : ∃ x, up[q]? = some x := ⟨up[q], List.getElem?_eq_getElem hqu⟩
        obtain ⟨y, hy⟩ : ∃ y, sz[q]? = some y := ⟨sz[q], List.getElem?_eq_getElem hqz⟩
        have hu := F.out.ups q x hx
        have hs := F.out.szs q y hy
        clear hx hy hlu hlz
        have hfu := F.out.fu q
        have hfs := F.out.fs q
        have hus := F.out.us
        have hbu := F.out.bu
        have hbs := F.out.bs
        go_wp2
        go_region
        have hF : Forest w.heap.size n ((wr.setCell ⟨gu, q, none⟩ (.int .i64 (q : Int))).setCell ⟨gs, q, none⟩ (.int .i64 ((1 : Nat) : Int))).drew b gu gs (up.set q q) (sz.set q 1) := ((F.out.setU hlt q).setS hlt 1).drewN 1
        have hb2 : Below w.heap.size w ((wr.setCell ⟨gu, q, none⟩ (.int .i64 (q : Int))).setCell ⟨gs, q, none⟩ (.int .i64 ((1 : Nat) : Int))).drew := ((hb.setCell (p := ⟨gu, q, none⟩) F.out.u1 _).setCell (p := ⟨gs, q, none⟩) F.out.s1 _).drew
        have h1 : ((1 : Nat) : Int) = 1 := rfl
        rw [h1] at hF hb2
        clear h1
        generalize ((wr.setCell ⟨gu, q, none⟩ (.int .i64 (q : Int))).setCell ⟨gs, q, none⟩ (.int .i64 1)).drew = W at hF hb2 ⊢
        have F2 := Lib.hid hF
        have H2 := Lib.hid (show ∀ k, k < q + 1 → (up.set q q)[k]? = some k ∧ (sz.set q 1)[k]? = some 1 by
          intro k hk
          by_cases e : q = k
          · subst e
            exact ⟨List.getElem?_set_self hqu, List.getElem?_set_self hqz⟩
          · rw [List.getElem?_set_ne e, List.getElem?_set_ne e]
            exact H.out k (by omega))
        clear hF F H hc0 hc1 hu hs hfu hfs hus hbu hbs hqu hqz
        go_wp2
        go_roundw
        case rel => exact ⟨q + 1, _, _, by first | rfl | go_num, by omega, F2, H2, hb2⟩
        case measure => first | (simp [intOf]; omega) | (simp only [intOf]; omega)
      · have hu : up = List.range n := by
          have := F.out.lu
          apply List.ext_getElem?
          intro k
          by_cases hk : k < q
          · rw [(H.out k hk).1, List.getElem?_range (by omega)]
          · rw [List.getElem?_eq_none (by omega), List.getElem?_eq_none (by simp; omega)]
        have hs : sz = List.replicate n 1 := by
          have := F.out.lz
          apply List.ext_getElem?
          intro k
          by_cases hk : k < q
          · rw [(H.out k hk).2, List.getElem?_replicate, if_pos (by omega)]
          · rw [List.getElem?_eq_none (by omega), List.getElem?_eq_none (by simp; omega)]
        subst hu hs
        clear H
        go_wp2
        go_ret
        exact ⟨b, gu, gs, rfl, F.out, hb⟩
end Go.Proofs.Ytfldajplclahfaa
/- The walk of Join. -/
namespace Go.Proofs.Ytfldajplclahfaa
open Go.RowKit
set_option linter.unusedVariables false

/-- what the sets are, whatever the forest looks like -/
def SetsAt (base n : Nat) (w : World) (b gu gs : Nat) (s : Nat → Nat) : Prop := ∃ up sz rt h, Forest base n w b gu gs up sz ∧ Good n up sz rt h ∧ Link n rt s
theorem SetsAt.but {base n : Nat} {w w' : World} {b gu gs : Nat} {s : Nat → Nat} {T : Blocks} (f : SetsAt base n w b gu gs s) (h : But T w w') (tb : ¬ T b) (tu : ¬ T gu) (ts : ¬ T gs) : SetsAt base n w' b gu gs s := by
  obtain ⟨up, sz, rt, h', f, g, l⟩ := f
  exact ⟨up, sz, rt, h', f.but h tb tu ts, g, l⟩

set_option maxHeartbeats 1000000 in
theorem join_any2 {base n : Nat} {w : World} {b gu gs : Nat} {s : Nat → Nat} (f0 : SetsAt base n w b gu gs s) (i j : Nat) (hi : i < n) (hj : j < n) :
    Calls Try.prog 53 #[.pointer (some ⟨b, 0, none⟩), .int .i64 (i : Int), .int .i64 (j : Int)] w fun e w' => (∃ a : Int, e = .returned (.tuple #[.int .i64 a, .bool (!decide (s i = s j))])) ∧
      SetsAt base n w' b gu gs (if s i = s j then s else joinS s (s i) (s j)) ∧ But (Is2 gu gs) w w' := by
  obtain ⟨up, sz, rt, h, f0, g0, l0⟩ := f0
  have F0 := Lib.hid f0
  have G0 := Lib.hid g0
  have L0 := Lib.hid l0
  clear f0 g0 l0
  go_enter Try.func53, Try.ntmps53
  go_wp2_with fail
  refine (head_any F0.out G0.out i hi).mono ?_
  rintro e w1 ⟨rfl, up1, f1, g1, b1⟩
  have F1 := Lib.hid f1
  have G1 := Lib.hid g1
  clear f1 g1
  go_wp2_with fail
  refine (head_any F1.out G1.out j hj).mono ?_
  rintro e w2 ⟨rfl, up2, f2, g2, b2⟩
  have F := Lib.hid f2
  have G := Lib.hid g2
  have hbut : But (Is2 gu gs) w w2 := (b1.trans b2).sub (fun k hk => .inl hk)
  clear f2 g2 b1 b2 F1 G1 F0 G0
  have ha := G.out.rt_lt i hi
  have hb := G.out.rt_lt j hj
  have hn := F.out.n1
  by_cases he : rt i = rt j
  · have hs := Lib.hid ((L0.out i j hi hj).1 he)
    have HR := Lib.hid (show SetsAt base n w2 b gu gs s from ⟨up2, sz, rt, h, F.out, G.out, L0.out⟩)
    rw [he]
    go_wp2
    go_ret2
    exact ⟨⟨_, by first | rfl | (rw [hs.out]; simp; rfl)⟩, by first | exact HR.out | (rw [if_pos hs.out]; exact HR.out), hbut⟩
  · have hs := Lib.hid (fun e => he ((L0.out i j hi hj).2 e))
    have hne : ((rt i : Int) == (rt j : Int)) = false := by simp; omega
    have hc1 := F.out.c1
    have hlz := F.out.lz
    obtain ⟨x, hx⟩ : ∃ x, sz[rt i]? = some x := ⟨sz[rt i], List.getElem?_eq_getElem (by omega)⟩
    obtain ⟨y, hy⟩ : ∃ y, sz[rt j]? = some y := ⟨sz[rt j], List.getElem?_eq_getElem (by omega)⟩
    have hcx := F.out.szs _ x hx
    have hcy := F.out.szs _ y hy
    clear hx hy hlz
    go_wp2
    go_quiet (fail)
    go_upto_if 34 with (fail)
    go_cut [8, 9] (fun x8 x9 wx => ∃ p q : Nat, x8 = .int .i64 (p : Int) ∧ x9 = .int .i64 (q : Int) ∧ ((p = rt i ∧ q = rt j) ∨ (p = rt j ∧ q = rt i)) ∧ Hid (Forest base n wx b gu gs up2 sz) ∧ But (Is2 gu gs) w wx)
    case first =>
      rcases Nat.lt_or_ge x y with hxy | hxy
      · have hxy' : (x : Int) < (y : Int) := by omega
        go_wp2
        go_meet
        go_light
        exact ⟨rt j, rt i, rfl, rfl, .inr ⟨rfl, rfl⟩, Lib.hid (F.out.drewN _), hbut.drewN _⟩
      · have hxy' : ¬ x < y := by omega
        go_wp2
        go_meet
        go_light
        exact ⟨rt i, rt j, rfl, rfl, .inl ⟨rfl, rfl⟩, Lib.hid (F.out.drewN _), hbut.drewN _⟩
    case rest =>
      clear hc1 hcx hcy hbut F hne
      obtain ⟨p, q, rfl, rfl, hpq, F, hbut⟩ := hcut
      have HP := Lib.hid (show p < n ∧ q < n ∧ rt p = p ∧ rt q = q ∧ p ≠ q by
        have e1 := G.out.rt_self _ (G.out.rt_root i hi)
        have e2 := G.out.rt_self _ (G.out.rt_root j hj)
        rcases hpq with ⟨h1, h2⟩ | ⟨h1, h2⟩
        · rw [h1, h2]; exact ⟨ha, hb, e1, e2, he⟩
        · rw [h1, h2]; exact ⟨hb, ha, e2, e1, fun e => he e.symm⟩)
      have HPQ := Lib.hid hpq
      have hp := HP.out.1
      have hq := HP.out.2.1
      clear hpq he ha hb
      have hc0 := F.out.c0
      have hlz := F.out.lz
      have hlu := F.out.lu
      have hpz : p < sz.length := by omega
      have hqz : q < sz.length := by omega
      have hqu : q < up2.length := by omega
      clear hlz hlu
      obtain ⟨x1, hx⟩ : ∃ x, sz[p]? = some x := ⟨sz[p], List.getElem?_eq_getElem hpz⟩
      obtain ⟨y1, hy⟩ : ∃ y, sz[q]? = some y := ⟨sz[q], List.getElem?_eq_getElem hqz⟩
      obtain ⟨z1, hz⟩ : ∃ z, up2[q]? = some z := ⟨up2[q], List.getElem?_eq_getElem hqu⟩
      have hcz := F.out.ups _ z1 hz
      have hfu := F.out.fu q
      have HX := Lib.hid hx
      have HY := Lib.hid hy
      clear hx hy hz
      go_upto_region 7 with (fail)
      have hF : Forest base n (wc.setCell ⟨gu, q, none⟩ (.int .i64 (p : Int))) b gu gs (up2.set q p) sz := F.out.setU hq p
      have hb2 : But (Is2 gu gs) w (wc.setCell ⟨gu, q, none⟩ (.int .i64 (p : Int))) := hbut.setCell (p := ⟨gu, q, none⟩) (.inl rfl) _
      clear F hc0 hcz hfu hbut
      generalize wc.setCell ⟨gu, q, none⟩ (.int .i64 (p : Int)) = W at hF hb2 ⊢
      have F2 := Lib.hid hF
      clear hF
      have hc1 := F2.out.c1
      have hcx := F2.out.szs p x1 HX.out
      have hcy := F2.out.szs q y1 HY.out
      have hfs := F2.out.fs p
      have hxle : x1 ≤ 1048576 := by
        have h1 := G.out.cnt p hp
        rw [HP.out.2.2.1, HX.out] at h1
        injection h1 with h1
        have := cntL_le n rt p
        omega
      have hyle : y1 ≤ 1048576 := by
        have h1 := G.out.cnt q hq
        rw [HP.out.2.2.2.1, HY.out] at h1
        injection h1 with h1
        have := cntL_le n rt q
        omega
      go_region
      have hF : Forest base n (W.setCell ⟨gs, p, none⟩ (.int .i64 ((x1 + y1 : Nat) : Int))).drew b gu gs (up2.set q p) (sz.set p (x1 + y1)) := (F2.out.setS hp (x1 + y1)).drewN 1
      have hb3 : But (Is2 gu gs) w (W.setCell ⟨gs, p, none⟩ (.int .i64 ((x1 + y1 : Nat) : Int))).drew := (hb2.setCell (p := ⟨gs, p, none⟩) (.inr rfl) _).drew
      rw [Int.natCast_add] at hF hb3
      clear F2 hc1 hcx hcy hfs hxle hyle hb2
      generalize (W.setCell ⟨gs, p, none⟩ (.int .i64 ((x1 : Int) + (y1 : Int)))).drew = W2 at hF hb3 ⊢
      have HR := Lib.hid (show SetsAt base n W2 b gu gs (joinS s (s i) (s j)) by
        obtain ⟨hp, hq, e1, e2, hpq⟩ := HP.out
        have g2 := G.out.join hp hq e1 e2 hpq HX.out HY.out
        refine ⟨_, _, _, _, hF, g2, ?_⟩
        have hne : rt i ≠ rt j := fun e => hs.out ((L0.out i j hi hj).1 e)
        rcases HPQ.out with ⟨h1, h2⟩ | ⟨h1, h2⟩
        · rw [h1, h2]; exact L0.out.join hi hj hne
        · rw [h1, h2]; exact L0.out.join' hi hj hne)
      have hsn := hs.out
      clear hF HP HPQ HX HY G L0 hs
      go_wp2
      go_ret2
      exact ⟨⟨_, by first | rfl | (simp [hsn]; rfl)⟩, by first | exact HR.out | (rw [if_neg hsn]; exact HR.out), hb3⟩
end Go.Proofs.Ytfldajplclahfaa
