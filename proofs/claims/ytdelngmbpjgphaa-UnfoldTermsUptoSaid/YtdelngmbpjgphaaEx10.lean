/- The walk of expr.Eval, at a name. -/
import Derived.Test.YtdelngmbpjgphaaGEx8
import Derived.Test.YtdelngmbpjgphaaEx9
namespace Go.Proofs.Ytdelngmbpjgphaa
open Go.RowKit Go.Shelf
set_option linter.unusedVariables false
attribute [local go_sem] Oper.semAt_some
theorem new_at (W : World) (v : Value) (t : TypeId) : (W.alloc (.cells #[v] t)).cell? ⟨W.heap.size, 0, none⟩ = some v := by
  have h := World.alloc_heap_new W (.cells #[v] t)
  simp only [World.cell?, h]
  rfl
theorem keep_alloc {W : World} {a : Addr} {v : Value} (o : Obj) (h : W.cell? a = some v) : (W.alloc o).cell? a = some v := cell_kept h (World.grownBy_alloc W o none) (fun r e => by cases e)
theorem keep_frozen {W : World} {a : Addr} {v : Value} (o : Obj) (h : W.cell? a = some v) (hf : W.frozen? a = false) : (W.alloc o).frozen? a = false := (frozen_kept h (World.grownBy_alloc W o none) (fun r e => by cases e)).trans hf
set_option maxHeartbeats 1600000 in
set_option maxRecDepth 100000 in
theorem mev_name (env : List Bd) (t : Ex) (ht : t.two = none) (hk2 : t.kind = 2) : MEv env t := by
  intro w S V Ve hS r re
  obtain ⟨k, c, s, args, v, rfl, rfl, hk, hc, hs, hargs⟩ := id r
  obtain ⟨A, cap, rfl, _, _, _⟩ := hargs.form
  obtain ⟨Ae, cape, rfl, hel, hem, hreach⟩ := re.form
  simp only [Ex.kind] at hk2
  subst hk2
  have bel : Below w.heap.size w ((w.alloc (.cells #[.int .i64 2, .int .i64 c, .string s, .slice A args.length cap] 110)).alloc (.cells #[.int .i64 0] 3)) := ((Below.refl _ _).alloc (Nat.le_refl _) _).alloc (by simp) _
  have RA := Lib.hid (r.go bel hS)
  have BEL := Lib.hid bel
  have HT := Lib.hid ht
  have HW := Lib.hid (show (Ex.mk 2 c s args).worth env = look env s by rw [Ex.worth_none env ht]; simp [Ex.kind, Ex.name])
  have HBX := Lib.hid ((Blk.made w [.int .i64 2, .int .i64 c, .string s, .slice A args.length cap] 110 (base := 0) (Nat.zero_le _)).below ((Below.refl _ _).alloc (Nat.le_refl _) (.cells #[.int .i64 0] 3)))
  have HBR := Lib.hid (Blk.made (w.alloc (.cells #[.int .i64 2, .int .i64 c, .string s, .slice A args.length cap] 110)) [.int .i64 0] 3 (base := 0) (Nat.zero_le _))
  have HS := Lib.hid hS
  have HR := Lib.hid hreach
  have HOK := Lib.hid re.oks
  have RE := Lib.hid re
  unfold maxLen at hem
  unfold exV
  clear hargs r bel re hk hc hs hS ht hreach
  refine (callsIn_wide (n := 3)).1 ?_
  refine callsIn_of_wp_marks Try.func42 rfl trivial ?_ rfl
  simp only [Try.ntmps42, List.size_toArray, List.length_cons, List.length_nil, Nat.reduceAdd, Nat.reduceSub, Array.replicate_succ, Array.replicate_zero, List.push_toArray, List.append_toArray, List.nil_append, List.cons_append]
  gi_wp2
  refine ⟨trivial, ?_⟩
  refine (callsIn_wide.2 (two_none _ HT.out _ S _ RA.out)).mono ?_
  rintro e w1 ⟨rfl, b1⟩
  have HBX1 := Lib.hid (HBX.out.below b1)
  have HBR1 := Lib.hid (HBR.out.below b1)
  have hbw : Below w1.heap.size w1 ((w1.alloc (.cells #[.int .i64 0, .int .i64 0, .string ⟨#[]⟩, .slice none 0 0] 110)).alloc (.cells #[.int .i64 0, .int .i64 0, .string ⟨#[]⟩, .slice none 0 0] 110)) := ((Below.refl _ _).alloc (Nat.le_refl _) _).alloc (by simp) _
  have FIN := Lib.hid (BEL.out.trans ((b1.mono (by simp; omega)).trans (hbw.mono (Nat.le_trans BEL.out.size b1.size))))
  have hbr2 := HBR1.out.below hbw
  rw [World.size_alloc] at hbr2
  have HBX2 := Lib.hid (HBX1.out.below hbw)
  have HBR2 := Lib.hid hbr2
  have REW := Lib.hid (RE.out.keep Flat.keeps (Sub.refl _) (same_of_below FIN.out HS.out))
  have k0 := HBX2.out.cell 0 _ rfl
  have k2 := HBX2.out.cell 2 _ rfl
  have kr := hbr2.cell 0 _ rfl
  have fr := hbr2.fr
  have hsz : w.heap.size + 2 ≤ (((w1.alloc (.cells #[.int .i64 0, .int .i64 0, .string ⟨#[]⟩, .slice none 0 0] 110)).alloc (.cells #[.int .i64 0, .int .i64 0, .string ⟨#[]⟩, .slice none 0 0] 110))).heap.size := by have := hbr2.lt; omega
  unfold ex0
  clear b1 HBX1 HBR1 hbw hbr2 HBX HBR BEL RA
  gi_wp2
  refine ⟨trivial, ?_⟩
  refine (back_in Fence.wide _ trivial rfl _ _ _ _).mono ?_
  rintro e w2 ⟨rfl, rfl⟩
  gi_wp2
  have hcS : ((((w1.alloc (.cells #[.int .i64 0, .int .i64 0, .string ⟨#[]⟩, .slice none 0 0] 110)).alloc (.cells #[.int .i64 0, .int .i64 0, .string ⟨#[]⟩, .slice none 0 0] 110))).alloc (.cells #[.slice Ae env.length cape] 106)).cell? ⟨(((w1.alloc (.cells #[.int .i64 0, .int .i64 0, .string ⟨#[]⟩, .slice none 0 0] 110)).alloc (.cells #[.int .i64 0, .int .i64 0, .string ⟨#[]⟩, .slice none 0 0] 110))).heap.size, 0, none⟩ = some (.slice Ae env.length cape) := new_at _ _ _
  have hbS : Below (((w1.alloc (.cells #[.int .i64 0, .int .i64 0, .string ⟨#[]⟩, .slice none 0 0] 110)).alloc (.cells #[.int .i64 0, .int .i64 0, .string ⟨#[]⟩, .slice none 0 0] 110))).heap.size (((w1.alloc (.cells #[.int .i64 0, .int .i64 0, .string ⟨#[]⟩, .slice none 0 0] 110)).alloc (.cells #[.int .i64 0, .int .i64 0, .string ⟨#[]⟩, .slice none 0 0] 110))) ((((w1.alloc (.cells #[.int .i64 0, .int .i64 0, .string ⟨#[]⟩, .slice none 0 0] 110)).alloc (.cells #[.int .i64 0, .int .i64 0, .string ⟨#[]⟩, .slice none 0 0] 110))).alloc (.cells #[.slice Ae env.length cape] 106)) := (Below.refl _ _).alloc (Nat.le_refl _) _
  have HSZ := Lib.hid hsz
  have HBX3 := HBX2.out.below hbS
  have HBR3 := HBR2.out.below hbS
  have k2' := HBX3.cell 2 _ rfl
  have kr' := HBR3.cell 0 _ rfl
  have fr' := HBR3.fr 0
  have FIN2 : Below w.heap.size w ((((w1.alloc (.cells #[.int .i64 0, .int .i64 0, .string ⟨#[]⟩, .slice none 0 0] 110)).alloc (.cells #[.int .i64 0, .int .i64 0, .string ⟨#[]⟩, .slice none 0 0] 110))).alloc (.cells #[.slice Ae env.length cape] 106)) := FIN.out.trans (hbS.mono FIN.out.size)
  have REW2 := Lib.hid (RE.out.keep Flat.keeps (Sub.refl _) (same_of_below FIN2 HS.out))
  have hszB : (((w1.alloc (.cells #[.int .i64 0, .int .i64 0, .string ⟨#[]⟩, .slice none 0 0] 110)).alloc (.cells #[.int .i64 0, .int .i64 0, .string ⟨#[]⟩, .slice none 0 0] 110))).heap.size = w1.heap.size + 1 + 1 := by simp
  have hsz0 : ((((w1.alloc (.cells #[.int .i64 0, .int .i64 0, .string ⟨#[]⟩, .slice none 0 0] 110)).alloc (.cells #[.int .i64 0, .int .i64 0, .string ⟨#[]⟩, .slice none 0 0] 110))).alloc (.cells #[.slice Ae env.length cape] 106)).heap.size = w1.heap.size + 1 + 1 + 1 := by simp
  rw [hszB] at hcS hsz
  obtain ⟨W0, hW0⟩ : ∃ W0, (((w1.alloc (.cells #[.int .i64 0, .int .i64 0, .string ⟨#[]⟩, .slice none 0 0] 110)).alloc (.cells #[.int .i64 0, .int .i64 0, .string ⟨#[]⟩, .slice none 0 0] 110))).alloc (.cells #[.slice Ae env.length cape] 106) = W0 := ⟨_, rfl⟩
  rw [hW0] at hcS k2' kr' fr' FIN2 REW2 hsz0 ⊢
  clear hW0 HBX3 HBR3 hbS REW HBX2 HBR2 k0 k2 kr fr FIN hszB HSZ
  have hS0 : Sub S (Upto W0.heap.size) := HS.out.trans (Sub.upto (by omega))
  refine wpIn_rangeFunc_ownH rfl (by omega) (gf := 74) (lb := #[.pointer (some ⟨w1.heap.size + 1 + 1, 0, none⟩)]) rfl trivial (enters_of Try.func74 (by kernel_rfl) rfl)
    (back_stops Fence.wide _ trivial rfl (by omega) (w1.heap.size + 1 + 1) W0.heap.size Ae cape env S hS0 W0 (by omega) (Nat.le_refl _) HR.out hcS REW2.out) belowK_t (belowK_b (Nat.le_refl _)) (Below.refl _ _) (fun _ => rfl)
    (fun pre W => (((∀ p ∈ pre, p.2.name ≠ s) ∧ W.cell? ⟨w.heap.size, 2, none⟩ = some (.string s) ∧ W.cell? ⟨w.heap.size + 1, 0, none⟩ = some (.int .i64 0) ∧ W.frozen? ⟨w.heap.size + 1, 0, none⟩ = false) ∧ Below w.heap.size w W) ∧ Below W0.heap.size W0 W)
    (fun c pre W => (c = .ret ∧ ∃ ini last, pre = ini ++ [last] ∧ (∀ p ∈ ini, p.2.name ≠ s) ∧ last.2.name = s ∧ W.cell? ⟨w.heap.size + 1, 0, none⟩ = some (.int .i64 last.2.val)) ∧ Below w.heap.size w W)
    (OwnFrom.and (OwnFrom.and (Own.from (fun s A B row hs hg hr => ⟨hs.1, cell_kept hs.2.1 hg hr, cell_kept hs.2.2.1 hg hr, (frozen_kept hs.2.2.1 hg hr).trans hs.2.2.2⟩) _) (ownFrom_below (Nat.le_refl _) (by omega))) (ownFrom_below (Nat.le_refl _) (Nat.le_refl _)))
    (fun c => OwnFrom.and (Own.from (fun s A B row hs hg hr => by obtain ⟨hc, ini, last, e1, e2, e3, e4⟩ := hs; exact ⟨hc, ini, last, e1, e2, e3, cell_kept e4 hg hr⟩) _) (ownFrom_below (Nat.le_refl _) (by omega)))
    ⟨⟨⟨by simp, k2', kr', fr'⟩, FIN2⟩, Below.refl _ _⟩
    (fun x a' W => ∃ Bx, W.cell? ⟨Bx, 0, none⟩ = some (.string x.2.name) ∧ W.cell? ⟨Bx, 1, none⟩ = some (.int .i64 x.2.val) ∧ a' = { tmps := #[.agg #[.int .i64 2, .int .i64 c, .string s, .slice A args.length cap], .slice Ae env.length cape, .pointer (some ⟨w.heap.size, 0, none⟩), undef, .pointer (some ⟨w.heap.size + 1, 0, none⟩), .pointer (some ⟨w1.heap.size, 0, none⟩), .pointer (some ⟨w1.heap.size + 1, 0, none⟩), .bool false, undef, .pointer (some ⟨Bx, 0, none⟩),
      .tuple #[ex0, ex0, .bool false], .agg #[.int .i64 2, .int .i64 c, .string s, .slice A args.length cap], .tuple #[ex0, ex0, .bool false], ex0, ex0, .bool false, .bool false, .bool false, undef, undef, undef, undef, undef, undef, undef, undef, undef, .bool false, .pointer (some ⟨w.heap.size, 0, none⟩), .int .i64 2, .bool false, undef, undef, .bool true, .pointer (some ⟨w.heap.size, 0, none⟩), .int .i64 2, .bool true, .slice Ae env.length cape,
      .func (.func 74) #[] #[.pointer (some ⟨w1.heap.size + 1 + 1, 0, none⟩)], .int .i64 (x.1 : Int), bdV x.2, undef, undef, undef, undef, undef, undef, undef], defers := [] })
    (fun x a' _ X Y row hs hg hr => by obtain ⟨Bx, e1, e2, e3⟩ := hs; exact ⟨Bx, cell_kept e1 hg (fun r e => (hr r e).2), cell_kept e2 hg (fun r e => (hr r e).2), e3⟩)
    ?assign ?body ?done ?stop
  case assign =>
    rintro l pre x W K ⟨⟨⟨hp, c2, cr, cf⟩, hB1⟩, hB2⟩ hK
    have hzW := hB1.size
    gi_wp2
    exact hK _ _ ((KeepsOthers.alloc _ _).from _) ((Below.refl _ W).alloc hB2.size _) ⟨⟨⟨hp, keep_alloc _ c2, keep_alloc _ cr, keep_frozen _ cr cf⟩, hB1.alloc hzW _⟩, hB2.alloc hB2.size _⟩ ⟨W.heap.size, by simp, by simp, rfl⟩
  case body =>
    rintro l pre x a' W hl ⟨r, hr⟩ ⟨⟨⟨hp, c2, cr, cf⟩, hB1⟩, hB2⟩ ⟨Bx, b0, b1, rfl⟩ hlt
    by_cases hx : x.2.name = s
    · have es : (x.2.name.toList == s.toList) = true := by rw [hx]; simp
      have HX := Lib.hid hx
      clear hx
      gi_wp2
      exact ⟨(KeepsOthers.setCell _ _ _).from _, ⟨rfl, pre, x, rfl, hp, HX.out, World.cell?_setCell_same' _ _ _ (by rw [cr]; rfl)⟩, hB1.setCell (p := ⟨w.heap.size + 1, 0, none⟩) (Nat.le_succ _) _⟩
    · have es : (x.2.name.toList == s.toList) = false := name_ne hx
      have HX := Lib.hid hx
      clear hx
      gi_wp2
      exact ⟨KeepsFrom.refl _ _, Below.refl _ _, ⟨⟨fun p hp' => (List.mem_append.1 hp').elim (hp p) (fun e => by rw [List.mem_singleton.1 e]; exact HX.out), c2, cr, cf⟩, hB1⟩, hB2⟩
  case done =>
    rintro D ys W hD rfl ⟨⟨⟨hne, c2, cr, cf⟩, hB⟩, _⟩ hK
    gi_wp2
    have hK' := (KeepsOthers.setCell W ⟨w.heap.size + 1, 0, none⟩ (.int .i64 0)).same D _ hK rfl
    refine ⟨by simp, .inl ⟨_, _, rfl, run_takeDeferred hK', ?_⟩⟩
    have hc5 := cell_kept (World.cell?_setCell_same' W ⟨w.heap.size + 1, 0, none⟩ (.int .i64 0) (by rw [cr]; rfl)) (grownBy_putObj' _ D (.deferred none)) (fun r e => by cases e; exact ⟨_, hK', rfl⟩)
    refine ⟨.int .i64 0, ?_, by rw [HW.out, look_none env s hne], by rw [HW.out]; exact look_in _ _ HOK.out, (hB.setCell (p := ⟨w.heap.size + 1, 0, none⟩) (Nat.le_succ _) _).trans (belowK_b (w := w) (Nat.le_refl _) _ D _ _ (by omega) hK' rfl rfl)⟩
    simp [results, Try.f42, go_sem, hc5]
  case stop =>
    rintro D c' pre W hD ⟨k, hk, rfl⟩ ⟨⟨rfl, ini, last, e1, e2, e3, hcr⟩, hB⟩ hK
    gi_wp2
    refine ⟨by simp, .inl ⟨_, _, rfl, run_takeDeferred hK, ?_⟩⟩
    have hc5 := cell_kept hcr (grownBy_putObj' _ D (.deferred none)) (fun r e => by cases e; exact ⟨_, hK, rfl⟩)
    obtain ⟨k', rfl⟩ : ∃ k', k = k' + 1 := by
      cases k with
      | zero => simp [comes] at e1
      | succ k' => exact ⟨k', rfl⟩
    rw [comes_succ] at e1
    obtain ⟨rfl, e5⟩ := List.append_inj' e1 rfl
    obtain rfl : bk env k' = last := by simpa using e5
    refine ⟨.int .i64 (bk env k').2.val, ?_, by rw [HW.out, look_last env s k' (by omega) e2 e3], by rw [HW.out]; exact look_in _ _ HOK.out, hB.trans (belowK_b (w := w) (Nat.le_refl _) W D _ _ (by omega) hK rfl rfl)⟩
    simp [results, Try.f42, go_sem, hc5]
theorem mev_all (env : List Bd) (t : Ex) : MEv env t := Ex.ind (fun t ht => by
  by_cases h : t.kind = 2
  · exact mev_name env t ht h
  · exact mev_one env t ht h) (fun t a b ht ha hb => mev_two env t a b ht ha hb) t
end Go.Proofs.Ytdelngmbpjgphaa
