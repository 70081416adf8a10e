/- The walk of the law ExprWorth; binds that came in. -/
import Derived.Test.YtikjegfjgfhiaaaEx10
import Derived.Test.YtikjegfjgfhiaaaEx6
import Derived.Test.YtikjegfjgfhiaaaOpenEx
import Derived.Test.YtikjegfjgfhiaaaOpenFlat
namespace Go.Proofs.Ytikjegfjgfhiaaa
open Go.ChangeShapes Go.WideShapes Go.ChangeAt Go.RowKit Go.Deep
set_option linter.unusedVariables false
theorem cellsOfBind : Try.prog.cellsOf 46 = 2 := by kernel_rfl
theorem bytesOfBind : Try.prog.bytesOf 46 = 24 := by kernel_rfl
theorem lenTwo {α : Type} {l : List α} (h : l.length = 2) : ∃ a b, l = [a, b] := by
  match l, h with
  | [a, b], _ => exact ⟨a, b, rfl⟩
section
variable {H : Type} {enc : TypeId × Value → H} {w : World} {spare : Nat → Bool} {held : Bool}
theorem bds_open {fuel : Nat} {cs : List Value} {x : DataW H × List MemPlace} (h : DataW.trod enc Try.prog w 0 spare held fuel 25 cs = some x) (hL : Light Try.prog 25 x.1) :
    ∃ l v, cs = [v] ∧ RdBds w (Upto w.heap.size) l v ∧ l.length + 1 ≤ Rows.uptoBulk x.1 := by
  obtain ⟨l, v, h1, h2, h3⟩ := slice_open (mu := fun (_ : Bd) => 1) (rd := Flat encBd okBd) Try.underlying25 cellsOfBind bytesOfBind (by decide) hL h (fun n' cs' y _ hy hLy => by
    obtain ⟨xs, n, rfl, rfl, hlen, hxl, hg⟩ := DataW.trod_struct Try.underlying46 hy
    rw [cellsOfBind] at hlen
    obtain ⟨c0, c1, rfl⟩ := lenTwo hlen
    obtain ⟨y0, y1, rfl⟩ := lenTwo hxl
    have g0 := hg 0 _ rfl
    have g1 := hg 1 _ rfl
    simp [cellsInt, cellsStr] at g0 g1
    have l0 := hLy.field Try.underlying46 (i := 0) (f := _) (d := y0.1) rfl rfl
    obtain ⟨s, e0, e0', ws⟩ := DataW.trod_string Try.underlying9 g0
    obtain ⟨k, e1, e1', wk⟩ := DataW.trod_int Try.underlying3 g1
    simp only [List.cons.injEq, and_true] at e0 e1
    subst e0 e1
    rw [e0'] at l0
    exact ⟨⟨s, k⟩, ⟨rfl, l0.string, inI_wf wk⟩, by simp only [Rows.uptoBulk]; omega⟩)
  exact ⟨l, v, h1, h2, by rw [sum_one] at h3; exact h3⟩
end
theorem rdE_of {w : World} {S : Blocks} {t : Ex} {cs : Array Value} (h : RdEx w S t cs.toList) : RdE w S t (.agg cs) := by
  obtain ⟨k, n, s, args⟩ := t
  obtain ⟨h1, h2, h3, v, e, h4⟩ := RdEx.open_ h
  have : cs = #[.int .i64 k, .int .i64 n, .string s, v] := by
    apply Array.toList_inj.1
    rw [e]
  subst this
  exact ⟨k, n, s, args, v, rfl, rfl, h1, h2, h3, h4⟩
set_option maxHeartbeats 1000000 in
set_option maxRecDepth 100000 in
theorem exprWorth_walk (t : Ex) (env : List Bd) (w : World) (V Ve : Value) (r : RdE w (Upto w.heap.size) t V) (re : RdBds w (Upto w.heap.size) env Ve) :
    Calls Try.prog 3 #[V, Ve] w fun e w' => e = .returned (.bool true) ∧ Below w.heap.size w w' := by
  obtain ⟨k, c, s, args, v, et, rfl, hk, hc, hs, hargs⟩ := id r
  obtain ⟨A, cap, rfl, _, _, _⟩ := hargs.form
  obtain ⟨Ae, cape, rfl, hel, hem, _⟩ := re.form
  have bel : Below w.heap.size w (w.alloc (.cells #[.int .i64 k, .int .i64 c, .string s, .slice A args.length cap] 24)) := (Below.refl _ _).alloc (Nat.le_refl _) _
  have BEL := Lib.hid bel
  have WRa := Lib.hid (r.go bel (Sub.refl _))
  have REW := Lib.hid (re.keep Flat.keeps (Sub.refl _) (same_of_below bel (Sub.refl _)))
  have BB := Lib.hid (Blk.made w [.int .i64 k, .int .i64 c, .string s, .slice A args.length cap] 24 (base := 0) (Nat.zero_le _))
  unfold maxLen at hem
  unfold exV
  clear hargs bel r re et hk hc hs
  go_enter Try.func3, Try.ntmps3
  go_upto_region 1 with (fail)
  generalize (w.alloc (.cells #[.int .i64 k, .int .i64 c, .string s, .slice A args.length cap] 24)) = W at *
  have HSW := Lib.hid ((Sub.upto BEL.out.size : Sub (Upto w.heap.size) (Upto W.heap.size)))
  have hlt : w.heap.size < W.heap.size := BB.out.lt
  have x0 := BB.out.cell 0 _ rfl
  have x1 := BB.out.cell 1 _ rfl
  have x2 := BB.out.cell 2 _ rfl
  have x3 := BB.out.cell 3 _ rfl
  have HWP := Lib.hid (fun w' h => Stay.size h : ∀ w', Stay W w' → W.heap.size ≤ w'.heap.size)
  go_region_held3 (fun w' => Stay W w') (first | assumption | exact Stay.mk (Kept.start _) | ((refine Stay.mk ?_; (repeat (with_reducible first | refine Kept.set ?_ (by omega) _ | refine Kept.drew ?_ | refine Kept.alloc ?_ _)); first | exact Kept.refl _ | assumption)))
    (first
      | ((go_at_call 6; refine (mev_all env t _ (Upto w.heap.size) _ _ (HSW.out.trans (Sub.upto (HWP.out _ (by assumption)))) (WRa.out.keep (Sub.refl _) (Same.sub (Stay.same (by assumption)) HSW.out)) (REW.out.keep Flat.keeps (Sub.refl _) (Same.sub (Stay.same (by assumption)) HSW.out))).mono ?_; rintro e wa1 ⟨rfl, hia, hb1⟩; have hst1 : Stay W wa1 := Stay.step hb1 (by assumption); have hk1 : Kept W wa1 := Kept.here hst1))
      | ((go_at_call 7; refine (eev_all env t _ (Upto w.heap.size) _ _ (HSW.out.trans (Sub.upto (HWP.out _ (by assumption)))) (WRa.out.keep (Sub.refl _) (Same.sub (Stay.same (by assumption)) HSW.out)) (REW.out.keep Flat.keeps (Sub.refl _) (Same.sub (Stay.same (by assumption)) HSW.out))).mono ?_; rintro e wb1 ⟨rfl, hib, hb2⟩; have hst2 : Stay W wb1 := Stay.step hb2 (by assumption); have hk2 : Kept W wb1 := Kept.here hst2)))
  go_wp2
  go_ret
  exact ⟨by simp, BEL.out.trans (hst2.below.mono BEL.out.size)⟩
end Go.Proofs.Ytikjegfjgfhiaaa
