/- The walks of New and of Join. -/
import Derived.Test.YtmpononkbdfkmaaUf1
namespace Go.Proofs.Ytmpononkbdfkmaa
open Go.RowKit
set_option linter.unusedVariables false
theorem infoI : (Try.prog.info? 3).map (fun i => (i.zero, i.size, i.bytes)) = some (some (.int .i64 0), 1, 8) := by kernel_rfl

/-- a row just made -/
theorem made_row (w : World) (n : Nat) (E : TypeId) {q : Nat} {u : Nat} (h : (List.replicate n 0)[q]? = some u) : (w.alloc (.cells (Array.replicate n (.int .i64 0)) E)).cell? ⟨w.heap.size, q, none⟩ = some (.int .i64 (u : Int)) := by
  rw [List.getElem?_replicate] at h
  split at h
  · rename_i hq
    injection h with h; subst h
    have h := heap_alloc_new w (.cells (Array.replicate n (.int .i64 0)) E)
    unfold World.cell?
    simp only [h]
    simp [hq]
  · cases h
theorem frozen_alloc_cells (w : World) (c : Array Value) (E : TypeId) (o : Nat) : (w.alloc (.cells c E)).frozen? ⟨w.heap.size, o, none⟩ = false := by
  have h := heap_alloc_new w (.cells c E)
  unfold World.frozen?
  simp only [h]
  simp
theorem forest_new (w : World) (n : Nat) (hn : n ≤ 200) (E F : TypeId) (gu gs : Nat) (h : (gu = w.heap.size ∧ gs = w.heap.size + 1) ∨ (gu = w.heap.size + 1 ∧ gs = w.heap.size)) :
    Forest w.heap.size n (((w.alloc (.cells (Array.replicate n (.int .i64 0)) E)).alloc (.cells (Array.replicate n (.int .i64 0)) E)).alloc (.cells #[.slice (some ⟨gu, 0, none⟩) n n, .slice (some ⟨gs, 0, none⟩) n n] F)) (w.heap.size + 1 + 1) gu gs (List.replicate n 0) (List.replicate n 0) := by
  obtain ⟨w1, hw1⟩ : ∃ w1, w1 = w.alloc (.cells (Array.replicate n (.int .i64 0)) E) := ⟨_, rfl⟩
  have s1 : w1.heap.size = w.heap.size + 1 := by rw [hw1]; simp
  obtain ⟨w2, hw2⟩ : ∃ w2, w2 = w1.alloc (.cells (Array.replicate n (.int .i64 0)) E) := ⟨_, rfl⟩
  have s2 : w2.heap.size = w.heap.size + 1 + 1 := by rw [hw2, World.size_alloc, s1]
  rw [← hw1, ← hw2]
  have r0 : ∀ (q u : Nat), (List.replicate n 0)[q]? = some u → w2.cell? ⟨w.heap.size, q, none⟩ = some (.int .i64 (u : Int)) := fun q u h => by
    rw [hw2, World.cell?_alloc_lt _ _ _ (by rw [s1]; simp), hw1]
    exact made_row w n E h
  have r1 : ∀ (q u : Nat), (List.replicate n 0)[q]? = some u → w2.cell? ⟨w.heap.size + 1, q, none⟩ = some (.int .i64 (u : Int)) := fun q u h => by
    have := made_row w1 n E h
    rw [s1] at this
    rw [hw2]; exact this
  have f0 : ∀ o, w2.frozen? ⟨w.heap.size, o, none⟩ = false := fun o => by
    rw [hw2, frozen_of_block (Below.heap_alloc w1 _ _ (by rw [s1]; omega)), hw1]
    exact frozen_alloc_cells _ _ _ _
  have f1 : ∀ o, w2.frozen? ⟨w.heap.size + 1, o, none⟩ = false := fun o => by
    have := frozen_alloc_cells w1 (Array.replicate n (.int .i64 0)) E o
    rw [s1] at this
    rw [hw2]; exact this
  have c : ∀ (k : Nat) v, #[Value.slice (some ⟨gu, 0, none⟩) n n, .slice (some ⟨gs, 0, none⟩) n n][k]? = some v → (w2.alloc (.cells #[Value.slice (some ⟨gu, 0, none⟩) n n, .slice (some ⟨gs, 0, none⟩) n n] F)).cell? ⟨w.heap.size + 1 + 1, k, none⟩ = some v := fun k v hk => by
    have h := heap_alloc_new w2 (.cells #[Value.slice (some ⟨gu, 0, none⟩) n n, .slice (some ⟨gs, 0, none⟩) n n] F)
    rw [s2] at h
    unfold World.cell?
    simp only [h]
    exact hk
  have lt0 : w.heap.size < w2.heap.size := by omega
  have lt1 : w.heap.size + 1 < w2.heap.size := by omega
  have k0 : ∀ g o v, g < w2.heap.size → w2.cell? ⟨g, o, none⟩ = some v → (w2.alloc (.cells #[Value.slice (some ⟨gu, 0, none⟩) n n, .slice (some ⟨gs, 0, none⟩) n n] F)).cell? ⟨g, o, none⟩ = some v := fun g o v hg hv => by
    rw [World.cell?_alloc_lt _ _ _ hg]; exact hv
  have k1 : ∀ g o, g < w2.heap.size → w2.frozen? ⟨g, o, none⟩ = false → (w2.alloc (.cells #[Value.slice (some ⟨gu, 0, none⟩) n n, .slice (some ⟨gs, 0, none⟩) n n] F)).frozen? ⟨g, o, none⟩ = false := fun g o hg hv => by
    rw [frozen_of_block (Below.heap_alloc w2 _ _ hg)]; exact hv
  have hsz : (w2.alloc (.cells #[Value.slice (some ⟨gu, 0, none⟩) n n, .slice (some ⟨gs, 0, none⟩) n n] F)).heap.size = w.heap.size + 1 + 1 + 1 := by rw [World.size_alloc, s2]
  rcases h with ⟨e1, e2⟩ | ⟨e1, e2⟩
  all_goals
    have hgu : gu < w2.heap.size := by omega
    have hgs : gs < w2.heap.size := by omega
    refine ⟨by simp, by simp, hn, by omega, by omega, by omega, by omega, by omega, by omega, by omega, by omega, by omega, c 0 _ rfl, c 1 _ rfl, fun q u h => k0 _ _ _ hgu ?_, fun q u h => k0 _ _ _ hgs ?_, fun o => k1 _ _ hgu ?_, fun o => k1 _ _ hgs ?_⟩
    all_goals first
      | (rw [e1]; first | exact r0 q u h | exact r1 q u h | exact f0 o | exact f1 o)
      | (rw [e2]; first | exact r0 q u h | exact r1 q u h | exact f0 o | exact f1 o)

set_option maxHeartbeats 1000000 in
theorem new_any (n : Nat) (hn : n ≤ 200) (w : World) :
    Calls Try.prog 80 #[.int .i64 (n : Int)] w fun e w' => ∃ b gu gs, e = .returned (.pointer (some ⟨b, 0, none⟩)) ∧ Forest w.heap.size n w' b gu gs (List.range n) (List.replicate n 1) ∧ Below w.heap.size w w' := by
  obtain ⟨i0, hi, hz0, hz1, hz2⟩ := info_parts infoI
  have hmk := fun w => run_make1 (P := Try.prog) 37 3 i0 _ Try.underlying37 hi hz0 hz1 rfl n (by rw [hz2]; omega) (by omega) w
  go_enter Try.func80, Try.ntmps80
  go_upto_region 1 with (fail)
  go_cut [3] (fun x wx => ∃ b gu gs, x = .pointer (some ⟨b, 0, none⟩) ∧ Forest w.heap.size n wx b gu gs (List.replicate n 0) (List.replicate n 0) ∧ Below w.heap.size w wx)
  case first =>
    go_region
    all_goals (try go_wp2_with fail)
    all_goals go_meet
    all_goals go_light
    all_goals first
      | exact ⟨_, _, _, rfl, (forest_new w n hn _ _ _ _ (.inl ⟨rfl, rfl⟩)).drewN 1, ((((Below.refl _ w).alloc (Nat.le_refl _) _).alloc (by simp) _).alloc (by simp; omega) _).drew⟩
      | exact ⟨_, _, _, rfl, (forest_new w n hn _ _ _ _ (.inr ⟨rfl, rfl⟩)).drewN 1, ((((Below.refl _ w).alloc (Nat.le_refl _) _).alloc (by simp) _).alloc (by simp; omega) _).drew⟩
  case rest =>
    obtain ⟨b, gu, gs, rfl, hf, hb⟩ := hcut
    have F := Lib.hid hf
    clear hf
    go_wp2
    go_loopw [12] (fun t wr => ∃ (q : Nat) (up sz : List Nat), t = .int .i64 (q : Int) ∧ q ≤ n ∧ Hid (Forest w.heap.size n wr b gu gs up sz) ∧ Hid (∀ k, k < q → up[k]? = some k ∧ sz[k]? = some 1) ∧ Below w.heap.size w wr) (fun t _ => n - (intOf t).toNat)
    case atStart => exact ⟨0, _, _, rfl, by omega, F, Lib.hid (fun k hk => absurd hk (by omega)), hb⟩
    case round =>
      clear F hb
      obtain ⟨q, up, sz, rfl, hq, F, H, hb⟩ := hrel
      by_cases hlt : q < n
      · have hc0 := F.out.c0
        have hc1 := F.out.c1
        have hlu := F.out.lu
        have hlz := F.out.lz
        have hqu : q < up.length := by omega
        have hqz : q < sz.length := by omega
        obtain ⟨x, hx⟩ : ∃ x, up[q]? = some x := ⟨up[q], List.getElem?_eq_getElem hqu⟩
        obtain ⟨y, hy⟩ : ∃ y, sz[q]? = some y := ⟨sz[q], List.getElem?_eq_getElem hqz⟩
        have hu := F.out.ups q x hx
        have hs := F.out.szs q y hy
        clear hx hy hlu hlz
        have hfu := F.out.fu q
        have hfs := F.out.fs q
        have hus := F.out.us
        have hbu := F.out.bu
        have hbs := F.out.bs
        go_wp2
        go_region
        have hF : Forest w.heap.size n ((wr.setCell ⟨gu, q, none⟩ (.int .i64 (q : Int))).setCell ⟨gs, q, none⟩ (.int .i64 ((1 : Nat) : Int))).drew b gu gs (up.set q q) (sz.set q 1) := ((F.out.setU hlt q).setS hlt 1).drewN 1
        have hb2 : Below w.heap.size w ((wr.setCell ⟨gu, q, none⟩ (.int .i64 (q : Int))).setCell ⟨gs, q, none⟩ (.int .i64 ((1 : Nat) : Int))).drew := ((hb.setCell (p := ⟨gu, q, none⟩) F.out.u1 _).setCell (p := ⟨gs, q, none⟩) F.out.s1 _).drew
        have h1 : ((1 : Nat) : Int) = 1 := rfl
        rw [h1] at hF hb2
        clear h1
        generalize ((wr.setCell ⟨gu, q, none⟩ (.int .i64 (q : Int))).setCell ⟨gs, q, none⟩ (.int .i64 1)).drew = W at hF hb2 ⊢
        have F2 := Lib.hid hF
        have H2 := Lib.hid (show ∀ k, k < q + 1 → (up.set q q)[k]? = some k ∧ (sz.set q 1)[k]? = some 1 by
          intro k hk
          by_cases e : q = k
          · subst e
            exact ⟨List.getElem?_set_self hqu, List.getElem?_set_self hqz⟩
          · rw [List.getElem?_set_ne e, List.getElem?_set_ne e]
            exact H.out k (by omega))
        clear hF F H hc0 hc1 hu hs hfu hfs hus hbu hbs hqu hqz
        go_wp2
        go_roundw
        case rel => exact ⟨q + 1, _, _, by first | rfl | go_num, by omega, F2, H2, hb2⟩
        case measure => first | (simp [intOf]; omega) | (simp only [intOf]; omega)
      · have hu : up = List.range n := by
          have := F.out.lu
          apply List.ext_getElem?
          intro k
          by_cases hk : k < q
          · rw [(H.out k hk).1, List.getElem?_range (by omega)]
          · rw [List.getElem?_eq_none (by omega), List.getElem?_eq_none (by simp; omega)]
        have hs : sz = List.replicate n 1 := by
          have := F.out.lz
          apply List.ext_getElem?
          intro k
          by_cases hk : k < q
          · rw [(H.out k hk).2, List.getElem?_replicate, if_pos (by omega)]
          · rw [List.getElem?_eq_none (by omega), List.getElem?_eq_none (by simp; omega)]
        subst hu hs
        clear H
        go_wp2
        go_ret
        exact ⟨b, gu, gs, rfl, F.out, hb⟩
end Go.Proofs.Ytmpononkbdfkmaa
