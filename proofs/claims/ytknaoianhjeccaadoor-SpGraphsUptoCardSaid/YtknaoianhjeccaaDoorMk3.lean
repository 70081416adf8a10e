/- The walks of sp.Marks and sp.Before. -/
import Derived.Test.YtknaoianhjeccaaDoorMk2
import Derived.Test.YtknaoianhjeccaaDoorAppZ
namespace Go.Proofs.YtknaoianhjeccaaDoor
open Go.RowKit
set_option linter.unusedVariables false
theorem infoPair : (Tryd.prog.info? 60).map (fun i => (i.zero, i.size, i.bytes)) = some (some (.agg #[.int .i64 0, .int .i64 0]), 2, 16) := by kernel_rfl
theorem zipP_ok (b : Nat) (l : List Nat) (M : Nat) (hM : M ≤ 9223372036854775807) (hb : b + l.length ≤ M) (hl : ∀ (i x : Nat), l[i]? = some x → x ≤ M) : ∀ y ∈ zipP b l, okPr y := by
  induction l generalizing b with
  | nil => intro y hy; simp [zipP] at hy
  | cons p r ih =>
    intro y hy
    simp only [zipP, List.mem_cons] at hy
    rcases hy with rfl | hy
    · have := hl 0 p rfl
      refine ⟨⟨?_, ?_⟩, ⟨?_, ?_⟩⟩ <;> (dsimp only; simp at hb; omega)
    · exact ih (b + 1) (by simp at hb; omega) (fun i x h => hl (i + 1) x (by simpa using h)) y hy
theorem Tm.marks_ok (t : Tm) (h : t.count ≤ 1048576) : ∀ y ∈ t.marks, okPr y :=
  zipP_ok 0 _ 1048576 (by decide) (by rw [Tm.pos_len]; omega) (fun i x hx => by have := Tm.pos_bd t 0 i x hx; omega)
set_option maxHeartbeats 1000000 in
set_option maxRecDepth 100000 in
theorem marks_any (t : Tm) (w : World) (S : Blocks) (V : Value) (hS : Sub S (Upto w.heap.size)) (r : RdT w S t V) (hl : t.count ≤ 1048576) :
    Calls Tryd.prog 20 #[V] w fun e w' => ∃ x, e = .returned x ∧ Fr encP okPr 2 16 w' t.marks x ∧ Below w.heap.size w w' := by
  obtain ⟨i0, hi, hz0, hz1, hz2⟩ := info_parts infoPair
  obtain ⟨n, hn⟩ : ∃ n, n = t.leaves.length := ⟨_, rfl⟩
  have hnc : n = t.count := hn
  have hmk := fun w => run_makeN (P := Tryd.prog) 57 60 i0 _ (zc := #[.int .i64 0, .int .i64 0]) Tryd.underlying57 hi hz0 hz1 rfl n (by rw [hz2]; omega) (by omega) w
  obtain ⟨k, c, wr, lb, kids, v, et, rfl, h1, h2, h3, h4⟩ := id r
  obtain ⟨A1, n1, rfl, _⟩ := h4.form
  have bel : Below w.heap.size w (w.alloc (.cells #[.int .i64 k, .int .i64 c, .bool wr, .int .i64 lb, .slice A1 kids.length n1] 35)) := (Below.refl _ _).alloc (Nat.le_refl _) _
  have BEL := Lib.hid bel
  have RA := Lib.hid (r.go bel hS)
  have BB := Lib.hid ((Blk.made w [.int .i64 k, .int .i64 c, .bool wr, .int .i64 lb, .slice A1 kids.length n1] 35 (base := 0) (Nat.zero_le _)))
  have hsz : (w.alloc (.cells #[.int .i64 k, .int .i64 c, .bool wr, .int .i64 lb, .slice A1 kids.length n1] 35)).heap.size = w.heap.size + 1 := by simp
  have HS := Lib.hid hS
  have HNC := Lib.hid hnc
  have HN := Lib.hid hn
  unfold tmV
  clear bel r h4 et h1 h2 h3 hS hn hnc
  go_enter Tryd.func20, Tryd.ntmps20
  go_wp2_with fail
  generalize w.alloc (.cells #[.int .i64 k, .int .i64 c, .bool wr, .int .i64 lb, .slice A1 kids.length n1] 35) = W at *
  obtain ⟨z, hz⟩ : ∃ z, z = w.heap.size := ⟨_, rfl⟩
  rw [← hz] at BB hsz
  have hzz1 := Nat.le_of_eq hz
  have hzz2 := Nat.le_of_eq hz.symm
  have hW1 := Nat.le_of_eq hsz
  have hW2 := Nat.le_of_eq hsz.symm
  rw [← hz]
  clear hz hsz
  refine (leaves_any t W S _ (HS.out.trans (Sub.upto (by omega))) RA.out hl).mono ?_
  rintro e w1 ⟨x, rfl, hx, hb1⟩
  obtain ⟨A2, n2, rfl, -, -, -⟩ := hx.form
  rw [← HN.out]
  have hs1 := hb1.size
  have B1 := Lib.hid (BB.out.below hb1)
  have RA1 := Lib.hid (RA.out.go hb1 (HS.out.trans (Sub.upto (by omega))))
  have BEL1 := Lib.hid (BEL.out.trans (hb1.mono (by omega)))
  clear hx hb1 RA BB BEL
  have hzl := B1.out.lt
  go_upto_region 2 with (fail)
  have R0 := RowAt.made (enc := encP) (size := 2) (base := w1.heap.size) w1 n ((0, 0) : Int × Int) 60 (z := #[.int .i64 0, .int .i64 0]) rfl rfl (by omega) (Nat.le_refl _)
  have M0 := Blk.made (w1.alloc (.cells (madeCells #[.int .i64 0, .int .i64 0] (n * 2)) 60)) [.int .i64 0, .slice (some ⟨w1.heap.size, 0, none⟩) n n, .int .i64 0] 83 (base := w1.heap.size) (by simp)
  rw [World.size_alloc] at M0
  have hbb : Below w1.heap.size w1 ((w1.alloc (.cells (madeCells #[.int .i64 0, .int .i64 0] (n * 2)) 60)).alloc (.cells #[.int .i64 0, .slice (some ⟨w1.heap.size, 0, none⟩) n n, .int .i64 0] 83)) := ((Below.refl _ _).alloc (Nat.le_refl _) _).alloc (by simp) _
  have MK := Lib.hid (show MkAt w1.heap.size ((w1.alloc (.cells (madeCells #[.int .i64 0, .int .i64 0] (n * 2)) 60)).alloc (.cells #[.int .i64 0, .slice (some ⟨w1.heap.size, 0, none⟩) n n, .int .i64 0] 83)) (w1.heap.size + 1) w1.heap.size n 0 0 (List.replicate n (0, 0)) from
    ⟨M0, R0.below ((Below.refl _ _).alloc (Nat.le_refl _) _), by simp, by omega, by have := HNC.out; omega⟩)
  have RA2 := Lib.hid (RA1.out.go hbb (HS.out.trans (Sub.upto (by omega))))
  have B2 := Lib.hid (B1.out.below hbb)
  have BEL2 := Lib.hid (BEL1.out.trans (hbb.mono (by omega)))
  have hs2 := hbb.size
  clear R0 M0 hbb RA1 B1 BEL1
  generalize (w1.alloc (.cells (madeCells #[.int .i64 0, .int .i64 0] (n * 2)) 60)).alloc (.cells #[.int .i64 0, .slice (some ⟨w1.heap.size, 0, none⟩) n n, .int .i64 0] 83) = W2 at *
  have c0 := B2.out.cell 0 _ rfl
  have c1 := B2.out.cell 1 _ rfl
  have c2 := B2.out.cell 2 _ rfl
  have c3 := B2.out.cell 3 _ rfl
  have c4 := B2.out.cell 4 _ rfl
  go_wp2_with fail
  refine (mtells_all t w1.heap.size W2 (w1.heap.size + 1) w1.heap.size n 0 0 _ S _ MK.out (by have := HNC.out; omega) (by omega) RA2.out (HS.out.trans (Sub.upto (by omega)))).mono ?_
  rintro e w3 ⟨rfl, bs, hm, hk⟩
  have hs3 := hk.size
  rw [mkOut_all _ _ (by rw [List.length_replicate]; exact HNC.out)] at hm
  have d1 := hm.1.cell 1 _ rfl
  have hg := hm.2.1.lt
  have hln := hm.2.2.1
  have hnn : n ≤ 1048576 := by have := HNC.out; omega
  have FR := Lib.hid (show Fr encP okPr 2 16 w3 t.marks (.slice (some ⟨w1.heap.size, 0, none⟩) n n) by
    have := Fr.of (hm.2.1.toRd (ok := okPr) (bytes := 16) (c := n) (S := Is w1.heap.size) encP_len (Tm.marks_ok t hl) rfl (by omega) (by unfold maxLen; omega) (by omega)) (fun b hb => by unfold Is at hb; subst hb; exact hg)
    rwa [hln] at this)
  have FIN := Lib.hid (BEL2.out.trans (hk.below (B := w.heap.size) (by omega) (fun k e => by rcases e with e | e <;> omega)))
  clear hm hk c0 c1 c2 c3 c4 hln
  go_wp2
  go_ret
  exact ⟨_, rfl, FR.out, FIN.out⟩
end Go.Proofs.YtknaoianhjeccaaDoor
