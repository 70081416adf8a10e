/- The walk of expr.Eval, at what has no two and is no name. -/
import Derived.Test.YtdelngmbpjgphaaEx7
namespace Go.Proofs.Ytdelngmbpjgphaa
open Go.RowKit
set_option linter.unusedVariables false
set_option maxHeartbeats 1600000 in
set_option maxRecDepth 100000 in
theorem mev_one (env : List Bd) (t : Ex) (ht : t.two = none) (hk2 : t.kind ≠ 2) : MEv env t := by
  intro w S V Ve hS r re
  obtain ⟨k, c, s, args, v, rfl, rfl, hk, hc, hs, hargs⟩ := id r
  obtain ⟨A, cap, rfl, _, _, _⟩ := hargs.form
  obtain ⟨Ae, cape, rfl, hel, hem, _⟩ := re.form
  have bel : Below w.heap.size w ((w.alloc (.cells #[.int .i64 k, .int .i64 c, .string s, .slice A args.length cap] 110)).alloc (.cells #[.int .i64 0] 3)) := ((Below.refl _ _).alloc (Nat.le_refl _) _).alloc (by simp) _
  have RA := Lib.hid (r.go bel hS)
  have BEL := Lib.hid bel
  have HT := Lib.hid ht
  have HW := Lib.hid (Ex.worth_none env ht)
  have HBX := Lib.hid ((Blk.made w [.int .i64 k, .int .i64 c, .string s, .slice A args.length cap] 110 (base := 0) (Nat.zero_le _)).below ((Below.refl _ _).alloc (Nat.le_refl _) (.cells #[.int .i64 0] 3)))
  have HBR := Lib.hid (Blk.made (w.alloc (.cells #[.int .i64 k, .int .i64 c, .string s, .slice A args.length cap] 110)) [.int .i64 0] 3 (base := 0) (Nat.zero_le _))
  have HS := Lib.hid hS
  have HC := Lib.hid hc
  simp only [Ex.kind] at hk2
  have e2 : (k == 2) = false := by simpa using hk2
  have E2 := Lib.hid hk2
  unfold maxLen at hem
  unfold exV
  clear hargs r bel re hk hc hs hS ht hk2
  go_enter Try.func42, Try.ntmps42
  go_wp2_with fail
  refine (two_none _ HT.out _ S _ RA.out).mono ?_
  rintro e w1 ⟨rfl, b1⟩
  have HBX1 := Lib.hid (HBX.out.below b1)
  have HBR1 := Lib.hid (HBR.out.below b1)
  have hbw : Below w1.heap.size w1 ((w1.alloc (.cells #[.int .i64 0, .int .i64 0, .string ⟨#[]⟩, .slice none 0 0] 110)).alloc (.cells #[.int .i64 0, .int .i64 0, .string ⟨#[]⟩, .slice none 0 0] 110)) := ((Below.refl _ _).alloc (Nat.le_refl _) _).alloc (by simp) _
  have FIN := Lib.hid (BEL.out.trans ((b1.mono (by simp; omega)).trans (hbw.mono (Nat.le_trans BEL.out.size b1.size))))
  have hbr2 := HBR1.out.below hbw
  rw [World.size_alloc] at hbr2
  have hbx2 := HBX1.out.below hbw
  have k0 := hbx2.cell 0 _ rfl
  have k1 := hbx2.cell 1 _ rfl
  have kr := hbr2.cell 0 _ rfl
  have fr := hbr2.fr
  unfold ex0
  clear b1 HBX1 HBR1 hbw hbr2 hbx2 HBX HBR BEL RA
  go_upto_region 4 with (fail)
  generalize ((w1.alloc (.cells #[.int .i64 0, .int .i64 0, .string ⟨#[]⟩, .slice none 0 0] 110)).alloc (.cells #[.int .i64 0, .int .i64 0, .string ⟨#[]⟩, .slice none 0 0] 110)) = W at *
  by_cases h1 : k = 1
  · subst h1
    have HX := Lib.hid (show (Ex.mk 1 c s args).worth env = c by rw [HW.out]; simp [Ex.kind, Ex.num])
    have hfin : (W.setCell ⟨w.heap.size + 1, 0, none⟩ (.int .i64 c)).cell? ⟨w.heap.size + 1, 0, none⟩ = some (.int .i64 c) := World.cell?_setCell_same' _ _ _ (by rw [kr]; rfl)
    go_wp2
    refine bodyPost_ret (v := .int .i64 c) (by simp [results, Try.results42, go_sem, hfin]) rfl ⟨by rw [HX.out], by rw [HX.out]; exact HC.out, ?_⟩
    exact FIN.out.setCell (p := ⟨w.heap.size + 1, 0, none⟩) (Nat.le_succ _) _
  · have e1 : (k == 1) = false := by simpa using h1
    have HX := Lib.hid (show (Ex.mk k c s args).worth env = 0 by rw [HW.out]; simp [Ex.kind, h1, E2.out])
    clear h1
    have hfin : (W.setCell ⟨w.heap.size + 1, 0, none⟩ (.int .i64 0)).cell? ⟨w.heap.size + 1, 0, none⟩ = some (.int .i64 0) := World.cell?_setCell_same' _ _ _ (by rw [kr]; rfl)
    go_wp2
    refine bodyPost_ret (v := .int .i64 0) (by simp [results, Try.results42, go_sem, hfin]) rfl ⟨by rw [HX.out], by rw [HX.out]; decide, ?_⟩
    exact FIN.out.setCell (p := ⟨w.heap.size + 1, 0, none⟩) (Nat.le_succ _) _
end Go.Proofs.Ytdelngmbpjgphaa
