/- Texts merged: Sm1, AppG, Un2. -/
import Derived.Test.YtdelngmbpjgphaaSr2
import Derived.Test.YtdelngmbpjgphaaAppZ
import Derived.Test.YtdelngmbpjgphaaGExMul
import Derived.Test.YtdelngmbpjgphaaUn1
import Derived.BigQuiet
/- The reference's with: binds and one more. -/
namespace Go.Proofs.Ytdelngmbpjgphaa
open Go.RowKit
set_option linter.unusedVariables false
theorem FrX.app {X : Blocks} {w : World} {n : Nat} {l : List Bd} {v : Value} (h : AppL encBd okBd 2 123 w n l v) (hl : l.length ≤ 2001) (hX : ∀ k, X k → k < n) : FrX X w l v := by
  rcases h with h | ⟨rfl, A, rfl⟩
  · exact FrX.own h hl hX
  · exact FrX.nil (by simp [maxLen])
theorem frB_new (w : World) {s : ByteArray} {v : Int} (hok : okBd ⟨s, v⟩) {g : Nat} (hg : w.heap.size = g) : Fr encBd okBd 2 24 (w.alloc (.cells #[.string s, vI v] 123)) [⟨s, v⟩] (.slice (some ⟨g, 0, none⟩) 1 1) := by
  subst hg
  have B := Blk.made w [.string s, vI v] 123 (base := 0) (Nat.zero_le _)
  refine ⟨Is w.heap.size, fun b hb => by unfold Is at hb; subst hb; simp [Upto], _, 1, [[.string s, vI v]], rfl, Nat.le_refl _, by simp [maxLen], by simp, rfl, ⟨by simp, fun _ => ⟨w.heap.size, 0, rfl, rfl, fun i c hi j v hv => by
    match i, hi with
    | 0, hi => simp at hi; subst hi; simpa using B.cell j v hv⟩⟩, fun i e c hi hc => by
    match i, hi, hc with
    | 0, hi, hc => simp at hi hc; subst hi hc; exact ⟨rfl, hok⟩⟩
set_option maxHeartbeats 1000000 in
set_option maxRecDepth 100000 in
theorem with_any (env : List Bd) (hlen : env.length ≤ 2000) (s : ByteArray) (hs : s.size ≤ 140737488355328) (v : Int) (hv : inI v) (w : World) (X : Blocks) (ve : Value) (g y : Nat) (cs : List Value) (hX : ∀ k, X k → k < w.heap.size) (hf : FrX X w env ve) (hg : w.cell? ⟨g, 0, none⟩ = some ve) (hy : w.cell? ⟨y, 1, none⟩ = some (.string s)) :
    Calls Try.prog 54 #[vI v, .pointer (some ⟨g, 0, none⟩), .pointer (some ⟨y, 0, none⟩)] w fun e w' => (∃ x, e = .returned x ∧ FrX X w' (env ++ [⟨s, v⟩]) x) ∧ Below w.heap.size w w' := by
  obtain ⟨i0, hi, hz0, hz1', hz2⟩ := info_parts infoBd
  obtain ⟨A, c, rfl, hc1, hc2⟩ := hf.form
  have hgl : g < w.heap.size := World.block_lt_of_cell? w _ hg
  have hyl : y < w.heap.size := World.block_lt_of_cell? w _ hy
  have HFR := Lib.hid hf.fr
  have HX := Lib.hid hX
  have HWP := Lib.hid (fun w' h => Stay.size h : ∀ w', Stay w w' → w.heap.size ≤ w'.heap.size)
  have HOK := Lib.hid (show okBd ⟨s, v⟩ from ⟨hs, hv⟩)
  have mb1 := Lib.hid (show (env.length + [(⟨s, v⟩ : Bd)].length) * 24 ≤ 140737488355328 by simp; omega)
  have mb2 := Lib.hid (show env.length + [(⟨s, v⟩ : Bd)].length ≤ maxLen by unfold maxLen; simp; omega)
  have hst0 : Stay w w := Stay.of (Below.refl _ _)
  clear hf hX
  go_enter Try.func54, Try.ntmps54
  go_upto_region 1 with (fail)
  go_region_held3 (fun w' => Stay w w') (first | assumption | exact Stay.mk (Kept.start _) | ((refine Stay.mk ?_; (repeat (with_reducible first | refine Kept.set ?_ (by omega) _ | refine Kept.drew ?_ | refine Kept.alloc ?_ _)); first | exact Kept.refl _ | assumption)))
    (first
      | ((refine step_append_zero (by rfl) (.tmp 5) (.tmp 6) 106 (by rfl) _ (by rfl) (by rfl) i0 _ Try.underlying106 hi hz0 hz1' hz2 rfl (by decide) (enc := encBd) (ok := okBd) (m := env) (base := w.heap.size) oneBd ?_ (HWP.out _ (by assumption)) ?_; (repeat (with_reducible first | exact HFR.out | refine Fr.drew ?_ | refine Fr.alloc ?_)); intro v1 w1 ho1 hb1; have hst1 : Stay w w1 := Stay.of ((Stay.below (by assumption)).trans (hb1.mono (HWP.out _ (by assumption)))); have hk1 : Kept w w1 := Kept.here hst1))
      | ((refine step_append_app (by rfl) (.tmp 7) (.tmp 12) 106 (by rfl) (by rfl) (by rfl) i0 _ Try.underlying106 hi hz0 hz1' hz2 rfl (by decide) (enc := encBd) (ok := okBd) (l := env) (m := [⟨s, v⟩]) (base := w.heap.size) oneBd ?_ ?_ (HWP.out _ (by assumption)) mb1.out mb2.out ?_; (first | exact frB_new _ HOK.out rfl | (refine Fr.via hb1 ?_; refine Fr.drew ?_; refine frB_new _ HOK.out ?_; (first | rfl | simp only [World.size_alloc])) | (refine Fr.via hb1 ?_; refine Fr.drew ?_; refine Fr.alloc ?_; refine frB_new _ HOK.out ?_; rfl)); (change AppL encBd okBd 2 123 _ w.heap.size env v1); (repeat (with_reducible first | exact ho1 | refine AppL.drew ?_ | refine AppL.alloc ?_)); intro v2 w2 ho2 hb2; have hst2 : Stay w w2 := Stay.of ((Stay.below (by assumption)).trans (hb2.mono (HWP.out _ (by assumption)))); have hk2 : Kept w w2 := Kept.here hst2)))
  all_goals go_wp2_with fail
  all_goals go_ret
  all_goals exact ⟨⟨_, rfl, FrX.app (by assumption) (by simp; omega) HX.out⟩, Stay.below (by assumption)⟩
end Go.Proofs.Ytdelngmbpjgphaa
/- 'append' onto a slice without room, where no order is drawn. -/
namespace Go.Proofs.Ytdelngmbpjgphaa
open Go.RowKit
set_option linter.unusedVariables false
section
variable {P : Program} {α : Type} {enc : α → List Value} {ok : α → Prop} {size bytes : Nat} {E : TypeId} {w : World} {l : List α} {A : Option Addr} {c : Nat}
theorem wp_append_full {o : Oper} {a : Act} {K : Act → World → Prop} {Q : Exit → Act → World → Prop} (hgd : o.guard = none) (s y : Operand) (t : TypeId) (ho : o.op = .call { callee := .builtin .append, args := #[s, y], argTypes := #[t, t] })
    (hs : a.eval s = .slice A l.length l.length) (hy : a.eval y = .slice (some ⟨c, 0, none⟩) 1 1) (x : α)
    (i : TypeInfo) (z : Value) (ht : P.underlying t = some (.slice E)) (hi : P.info? E = some i) (hz : i.zero = some z) (hsize : i.size = size) (hby : i.bytes = bytes) (hzs : z.cells.size = size) (hsz : 0 < size)
    (hlen : ∀ e, (enc e).length = size) (h1 : ∀ e, ok e → ∀ u ∈ enc e, u.oneCell' = true) (hl : Fr enc ok size bytes w l (.slice A l.length l.length)) (hok : ok x) (hx : ∀ (j : Nat) u, (enc x)[j]? = some u → w.cell? ⟨c, j, none⟩ = some u)
    (hb : (l.length + 1) * bytes ≤ 140737488355328) (hm : l.length + 1 ≤ maxLen)
    (h : ∀ v' w', OwnL (Flat enc ok) size E w' w.heap.size Nowhere (l ++ [x]) v' → Below w.heap.size w w' → K (a.put o.dst v') w') : Oper.wp P o a w K Q := by
  have h2 := step_append_full (ops := #[]) (Z := False) (Q := Q) hgd s y t ho hs hy x i z ht hi hz hsize hby hzs hsz hlen h1 hl hok hx hb hm h
  rwa [if_pos (by simp [Region.wanted, hgd])] at h2
theorem wpList_append_full {ops : Array Oper} {rest : List Oper} {o : Oper} {a : Act} {Q : Exit → Act → World → Prop} (hgd : o.guard = none) (s y : Operand) (t : TypeId) (ho : o.op = .call { callee := .builtin .append, args := #[s, y], argTypes := #[t, t] })
    (hs : a.eval s = .slice A l.length l.length) (hy : a.eval y = .slice (some ⟨c, 0, none⟩) 1 1) (x : α)
    (i : TypeInfo) (z : Value) (ht : P.underlying t = some (.slice E)) (hi : P.info? E = some i) (hz : i.zero = some z) (hsize : i.size = size) (hby : i.bytes = bytes) (hzs : z.cells.size = size) (hsz : 0 < size)
    (hlen : ∀ e, (enc e).length = size) (h1 : ∀ e, ok e → ∀ u ∈ enc e, u.oneCell' = true) (hl : Fr enc ok size bytes w l (.slice A l.length l.length)) (hok : ok x) (hx : ∀ (j : Nat) u, (enc x)[j]? = some u → w.cell? ⟨c, j, none⟩ = some u)
    (hb : (l.length + 1) * bytes ≤ 140737488355328) (hm : l.length + 1 ≤ maxLen)
    (h : ∀ v' w', OwnL (Flat enc ok) size E w' w.heap.size Nowhere (l ++ [x]) v' → Below w.heap.size w w' → wpList P ops Q rest (a.put o.dst v') w') : wpList P ops Q (o :: rest) a w :=
  wpList_plain hgd fun _ hK => wp_append_full hgd s y t ho hs hy x i z ht hi hz hsize hby hzs hsz hlen h1 hl hok hx hb hm fun v' w' h2 h3 => hK _ _ (h v' w' h2 h3)
end
end Go.Proofs.Ytdelngmbpjgphaa
/- The walks of unfold's step and bind; the builder, in a world. -/
namespace Go.Proofs.Ytdelngmbpjgphaa
open Go.RowKit
set_option linter.unusedVariables false
/-- block d: a heap, and what stands behind it -/
def HtAt (w : World) (d : Nat) (tail : List Value) (h : List Int) : Prop := Blk 0 w d (h.map vI ++ tail) ∧ h.length = 8 ∧ ∀ x ∈ h, inI x
section
variable {w w' : World} {d : Nat} {tail : List Value} {h : List Int}
theorem HtAt.but {T : Blocks} (r : HtAt w d tail h) (hb : But T w w') (hT : ¬ T d) : HtAt w' d tail h := ⟨r.1.but hb hT, r.2⟩
theorem HtAt.below (r : HtAt w d tail h) (hb : Below w.heap.size w w') : HtAt w' d tail h := r.but (T := Nowhere) (But.of_below hb) (fun h => h)
theorem HtAt.lt (r : HtAt w d tail h) : d < w.heap.size := r.1.lt
theorem HtAt.in_ (r : HtAt w d tail h) (n : Nat) : inI (h.getD n 0) := by
  by_cases hn : n < h.length
  · rw [List.getD_eq_getElem?_getD, List.getElem?_eq_getElem hn]; exact r.2.2 _ (List.getElem_mem hn)
  · rw [List.getD_eq_getElem?_getD, List.getElem?_eq_none (by omega)]; exact ⟨by decide, by decide⟩
theorem HtAt.cell (r : HtAt w d tail h) {n : Nat} (hn : n < 8) : w.cell? ⟨d, n, none⟩ = some (vI (h.getD n 0)) := by
  obtain ⟨h1, h2, _⟩ := r
  refine h1.cell n _ ?_
  rw [List.getElem?_append_left (by simpa [h2] using hn), List.getElem?_map, List.getElem?_eq_getElem (by omega), List.getD_eq_getElem?_getD, List.getElem?_eq_getElem (by omega)]
  rfl
theorem HtAt.fr (r : HtAt w d tail h) (o : Nat) : w.frozen? ⟨d, o, none⟩ = false := r.1.fr o
theorem HtAt.tailAt (r : HtAt w d tail h) {n : Nat} {v : Value} (hn : tail[n]? = some v) : w.cell? ⟨d, 8 + n, none⟩ = some v := by
  obtain ⟨h1, h2, _⟩ := r
  refine h1.cell _ _ ?_
  rw [List.getElem?_append_right (by simp [h2]), List.length_map, h2, Nat.add_sub_cancel_left]
  exact hn
theorem HtAt.setTail (r : HtAt w d tail h) {n : Nat} (hn : n < tail.length) (v : Value) : HtAt (w.setCell ⟨d, 8 + n, none⟩ v) d (tail.set n v) h ∧ But (Is d) w (w.setCell ⟨d, 8 + n, none⟩ v) := by
  obtain ⟨h1, h2, h3⟩ := r
  refine ⟨⟨?_, h2, h3⟩, (But.refl (Is d) w).setCell (p := ⟨d, 8 + n, none⟩) rfl v⟩
  have := h1.set (i := 8 + n) (by simp [h2]; omega) v
  rw [List.set_append_right _ _ (by simp [h2]), List.length_map, h2, Nat.add_sub_cancel_left] at this
  exact this
theorem HtAt.setHeap (r : HtAt w d tail h) {n : Nat} (hn : n < 8) (x : Int) (hx : inI x) : HtAt (w.setCell ⟨d, n, none⟩ (vI x)) d tail (h.set n x) ∧ But (Is d) w (w.setCell ⟨d, n, none⟩ (vI x)) := by
  obtain ⟨h1, h2, h3⟩ := r
  refine ⟨⟨?_, by simpa using h2, fun y hy => ?_⟩, (But.refl (Is d) w).setCell (p := ⟨d, n, none⟩) rfl (vI x)⟩
  · have := h1.set (i := n) (by simp [h2]; omega) (vI x)
    rw [List.set_append_left _ _ (by simp [h2]; omega), ← List.map_set] at this
    exact this
  · rcases List.mem_or_eq_of_mem_set hy with h | h
    · exact h3 y h
    · rw [h]; exact hx
end
/-- the builder that has come to m -/
def BdAt (w : World) (d F : Nat) (m : US) : Prop := HtAt w d [vI (F : Int), vI (m.st : Int)] m.h ∧ m.st ≤ F ∧ F ≤ 2000
theorem BdAt.below {w w' : World} {d F : Nat} {m : US} (h : BdAt w d F m) (hb : Below w.heap.size w w') : BdAt w' d F m := ⟨h.1.below hb, h.2⟩
abbrev spentU : List PanicEntry := [{ v := .iface 77 (.agg #[]), recovered := false }]
set_option maxHeartbeats 400000 in
theorem ustep_ok {w : World} {d F : Nat} {m : US} (h : BdAt w d F m) (hlt : m.st < F) :
    Calls Try.prog 41 #[.pointer (some ⟨d, 0, none⟩)] w fun e w' => e = .returned (.tuple #[]) ∧ BdAt w' d F m.step ∧ But (Is d) w w' := by
  obtain ⟨h1, h3, h4⟩ := h
  have c8 : w.cell? ⟨d, 8, none⟩ = some (vI (F : Int)) := HtAt.tailAt h1 (n := 0) rfl
  have c9 : w.cell? ⟨d, 9, none⟩ = some (vI (m.st : Int)) := HtAt.tailAt h1 (n := 1) rfl
  have f9 := HtAt.fr h1 9
  have hd : decide ((m.st : Int) = (F : Int)) = false := by simp; omega
  have H := Lib.hid h1
  have hst : (m.st : Int) ≤ 2000 := by omega
  clear h1
  go_enter Try.func41, Try.ntmps41
  go_wp2
  go_quiet (fail)
  go_wp2
  go_end0
  obtain ⟨q1, q2⟩ := HtAt.setTail (HtAt.but (T := Nowhere) H.out ((But.refl _ _).drewN nq) (fun h => h)) (n := 1) (by simp) (vI ((m.st : Int) + 1))
  have hc : ((m.step.st : Nat) : Int) = (m.st : Int) + 1 := by simp [US.step]
  refine ⟨rfl, ⟨?_, by simp only [US.step]; omega, h4⟩, (((But.refl (Is d) w).drewN nq).trans q2)⟩
  rw [hc]
  exact q1
set_option maxHeartbeats 400000 in
theorem ustep_no {w : World} {d F : Nat} {m : US} (h : BdAt w d F m) (hlt : ¬ m.st < F) :
    Calls Try.prog 41 #[.pointer (some ⟨d, 0, none⟩)] w fun e w' => e = .panicked spentU ∧ But (Is d) w w' := by
  obtain ⟨h1, h3, h4⟩ := h
  have c8 : w.cell? ⟨d, 8, none⟩ = some (vI (F : Int)) := HtAt.tailAt h1 (n := 0) rfl
  have c9 : w.cell? ⟨d, 9, none⟩ = some (vI (m.st : Int)) := HtAt.tailAt h1 (n := 1) rfl
  have e : m.st = F := by omega
  rw [e] at c9
  clear h1 e h3 h4 hlt
  go_enter Try.func41, Try.ntmps41
  go_wp2
  go_quiet (fail)
  go_wp2
  exact ⟨rfl, rfl, (But.refl (Is d) w).drewN nq⟩
set_option maxHeartbeats 1000000 in
theorem bind_any (env : List Bd) (hlen : env.length ≤ 2000) (s : ByteArray) (hs : s.size ≤ 140737488355328) (v : Int) (hv : inI v) (w : World) (X : Blocks) (ve : Value) (hX : ∀ k, X k → k < w.heap.size) (hf : FrX X w env ve) :
    Calls Try.prog 43 #[ve, .string s, vI v] w fun e w' => (∃ x, e = .returned x ∧ FrX X w' (env ++ [⟨s, v⟩]) x) ∧ Below w.heap.size w w' := by
  obtain ⟨i0, hi, hz0, hz1', hz2⟩ := info_parts infoBd
  obtain ⟨A, c, rfl, hc1, hc2⟩ := hf.form
  have HF := Lib.hid hf
  have HX := Lib.hid hX
  have HOK := Lib.hid (show okBd ⟨s, v⟩ from ⟨hs, hv⟩)
  have mb1 : (env.length + 1) * 24 ≤ 140737488355328 := by omega
  have mb2 : env.length + 1 ≤ maxLen := by unfold maxLen; omega
  have hbe : Below w.heap.size w (w.alloc (.cells #[.string s, vI v] 123)) := (Below.refl _ _).alloc (Nat.le_refl _) _
  have HBE := Lib.hid hbe
  have B := Lib.hid (Blk.made w [.string s, vI v] 123 (base := 0) (Nat.zero_le _))
  have HFR := Lib.hid ((hf.below hbe).clip.fr)
  clear hf hX hbe
  go_enter Try.func43, Try.ntmps43
  go_wp2_with (first
    | (go_at_call 61; refine (clip_any A env.length c hc1 hc2 _).mono ?_; rintro e wc ⟨rfl, rfl⟩)
    | (at_builtin; refine wpList_append_full rfl (.tmp 8) (.tmp 12) 106 rfl rfl rfl ⟨s, v⟩ i0 _ Try.underlying106 hi hz0 hz1' hz2 rfl (by decide) encBd_len oneBd HFR.out HOK.out B.out.cell mb1 mb2 ?_))
  intro v' w' ho hb
  obtain ⟨A', c', rfl⟩ := ho.form
  have hz3 : w.heap.size ≤ w.heap.size + 1 := Nat.le_succ _
  have HO := Lib.hid ho
  have HB := Lib.hid (HBE.out.trans (hb.mono hz3))
  clear ho hb
  go_wp2
  go_ret
  exact ⟨⟨_, rfl, FrX.own HO.out (by simp; omega) (fun k hk => Nat.lt_of_lt_of_le (HX.out k hk) hz3)⟩, HB.out⟩
end Go.Proofs.Ytdelngmbpjgphaa
