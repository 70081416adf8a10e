/- The state of the reference's run by marks, in a world. -/
import Derived.Test.YtdelngmbpjgphaaUn5
import Derived.Test.YtdelngmbpjgphaaGUn2
namespace Go.Proofs.Ytdelngmbpjgphaa
open Go.RowKit
set_option linter.unusedVariables false
abbrev OwnNs := OwnL (Flat encNM okNM) 4
theorem infoNM : (Try.prog.info? 126).map (fun i => (i.zero, i.size, i.bytes)) = some (some (.agg #[.int .i64 0, .int .i64 0, .bool false, .int .i64 0]), 4, 32) := by kernel_rfl
theorem oneNM {w : World} {S : Blocks} : ∀ (e : NM) (cs : List Value), Flat encNM okNM w S e cs → ∀ u ∈ cs, u.oneCell' = true := by
  rintro e _ ⟨rfl, _⟩ u hu
  simp only [encNM, List.mem_cons, List.not_mem_nil, or_false] at hu
  rcases hu with rfl | rfl | rfl | rfl <;> rfl
/-- block d holds a heap, something, and a row of marks of its own; its blocks are X -/
def HnAt (base : Nat) (w : World) (d : Nat) (X : Blocks) (mid : List Value) (h : List Int) (tr : List NM) : Prop :=
  ∃ o, Blk base w d (h.map vI ++ (mid ++ [o])) ∧ h.length = 8 ∧ (∀ x ∈ h, inI x) ∧ OwnNs 126 w base Nowhere tr o ∧ X d ∧ (∀ b, X b → base ≤ b ∧ b < w.heap.size) ∧ (∀ k, o.ownBlock = some k → X k ∧ k ≠ d)
section
variable {base : Nat} {w w' : World} {d : Nat} {X : Blocks} {mid : List Value} {h : List Int} {tr : List NM}
theorem HnAt.but {T : Blocks} (r : HnAt base w d X mid h tr) (hb : But T w w') (hT : ∀ b, X b → ¬ T b) : HnAt base w' d X mid h tr := by
  obtain ⟨o, h1, h2, h3, h4, h5, h6, h7⟩ := r
  exact ⟨o, h1.but hb (hT _ h5), h2, h3, h4.but hb (fun k hk => hT _ (h7 k hk).1), h5, fun b hx => ⟨(h6 b hx).1, Nat.lt_of_lt_of_le (h6 b hx).2 hb.size⟩, h7⟩
theorem HnAt.below (r : HnAt base w d X mid h tr) (hb : Below w.heap.size w w') : HnAt base w' d X mid h tr := r.but (T := Nowhere) (But.of_below hb) (fun _ _ h => h)
theorem HnAt.X0 (r : HnAt base w d X mid h tr) : X d := by obtain ⟨o, h1, h2, h3, h4, h5, h6, h7⟩ := r; exact h5
theorem HnAt.bd (r : HnAt base w d X mid h tr) : ∀ b, X b → base ≤ b ∧ b < w.heap.size := by obtain ⟨o, h1, h2, h3, h4, h5, h6, h7⟩ := r; exact h6
theorem HnAt.len (r : HnAt base w d X mid h tr) : h.length = 8 := by obtain ⟨o, h1, h2, h3, h4, h5, h6, h7⟩ := r; exact h2
theorem HnAt.ints (r : HnAt base w d X mid h tr) : ∀ x ∈ h, inI x := by obtain ⟨o, h1, h2, h3, h4, h5, h6, h7⟩ := r; exact h3
theorem HnAt.in_ (r : HnAt base w d X mid h tr) (n : Nat) : inI (h.getD n 0) := by
  by_cases hn : n < h.length
  · rw [List.getD_eq_getElem?_getD, List.getElem?_eq_getElem hn]; exact r.ints _ (List.getElem_mem hn)
  · rw [List.getD_eq_getElem?_getD, List.getElem?_eq_none (by omega)]; exact ⟨by decide, by decide⟩
/-- a cell of the heap -/
theorem HnAt.cell (r : HnAt base w d X mid h tr) {n : Nat} (hn : n < 8) : w.cell? ⟨d, n, none⟩ = some (vI (h.getD n 0)) := by
  obtain ⟨o, h1, h2, h3, h4, h5, h6, h7⟩ := r
  refine h1.cell n _ ?_
  rw [List.getElem?_append_left (by simpa [h2] using hn), List.getElem?_map, List.getElem?_eq_getElem (by omega), List.getD_eq_getElem?_getD, List.getElem?_eq_getElem (by omega)]
  rfl
theorem HnAt.fr (r : HnAt base w d X mid h tr) (o : Nat) : w.frozen? ⟨d, o, none⟩ = false := by obtain ⟨o', h1, _⟩ := r; exact h1.fr o
/-- what stands behind the heap -/
theorem HnAt.midAt (r : HnAt base w d X mid h tr) {n : Nat} {v : Value} (hn : mid[n]? = some v) : w.cell? ⟨d, 8 + n, none⟩ = some v := by
  obtain ⟨o, h1, h2, h3, h4, h5, h6, h7⟩ := r
  refine h1.cell _ _ ?_
  have hlt := (List.getElem?_eq_some_iff.1 hn).1
  rw [List.getElem?_append_right (by simp [h2]), List.length_map, h2, Nat.add_sub_cancel_left, List.getElem?_append_left hlt]
  exact hn
/-- a store behind the heap -/
theorem HnAt.setMid (r : HnAt base w d X mid h tr) {n : Nat} (hn : n < mid.length) (v : Value) : HnAt base (w.setCell ⟨d, 8 + n, none⟩ v) d X (mid.set n v) h tr ∧ But X w (w.setCell ⟨d, 8 + n, none⟩ v) := by
  obtain ⟨o, h1, h2, h3, h4, h5, h6, h7⟩ := r
  refine ⟨⟨o, ?_, h2, h3, h4.but ((But.refl (Is d) w).setCell (p := ⟨d, 8 + n, none⟩) rfl v) (fun k hk e => (h7 k hk).2 e), h5, fun b hb => ⟨(h6 b hb).1, by rw [size_setCell]; exact (h6 b hb).2⟩, h7⟩, (But.refl X w).setCell (p := ⟨d, 8 + n, none⟩) h5 v⟩
  have := h1.set (i := 8 + n) (by simp [h2]; omega) v
  rw [List.set_append_right _ _ (by simp [h2]), List.length_map, h2, Nat.add_sub_cancel_left, List.set_append_left _ _ hn] at this
  exact this
/-- a store into the heap -/
theorem HnAt.setHeap (r : HnAt base w d X mid h tr) {n : Nat} (hn : n < 8) (x : Int) (hx : inI x) : HnAt base (w.setCell ⟨d, n, none⟩ (vI x)) d X mid (h.set n x) tr ∧ But X w (w.setCell ⟨d, n, none⟩ (vI x)) := by
  obtain ⟨o, h1, h2, h3, h4, h5, h6, h7⟩ := r
  refine ⟨⟨o, ?_, by simpa using h2, fun y hy => ?_, h4.but ((But.refl (Is d) w).setCell (p := ⟨d, n, none⟩) rfl (vI x)) (fun k hk e => (h7 k hk).2 e), h5, fun b hb => ⟨(h6 b hb).1, by rw [size_setCell]; exact (h6 b hb).2⟩, h7⟩, (But.refl X w).setCell (p := ⟨d, n, none⟩) h5 (vI x)⟩
  · have := h1.set (i := n) (by simp [h2]; omega) (vI x)
    rw [List.set_append_left _ _ (by simp [h2]; omega), ← List.map_set] at this
    exact this
  · rcases List.mem_or_eq_of_mem_set hy with h | h
    · exact h3 y h
    · rw [h]; exact hx
/-- the row -/
theorem HnAt.row (r : HnAt base w d X mid h tr) : ∃ o, w.cell? ⟨d, 8 + mid.length, none⟩ = some o ∧ OwnNs 126 w base Nowhere tr o ∧ (∀ k, o.ownBlock = some k → X k ∧ k ≠ d) ∧
    ∀ (W1 w1 : World) (tr' : List NM) (v' : Value), Below w.heap.size w W1 → W1.grownBy w1 o.ownBlock → OwnNs 126 w1 base Nowhere tr' v' → (v'.ownBlock = o.ownBlock ∨ ∃ k, v'.ownBlock = some k ∧ W1.heap.size ≤ k) →
      w1.frozen? ⟨d, 8 + mid.length, none⟩ = false ∧ (w1.cell? ⟨d, 8 + mid.length, none⟩).isSome = true ∧ ∃ X', HnAt base (w1.setCell ⟨d, 8 + mid.length, none⟩ v') d X' mid h tr' ∧ Sub X' (Plus X w.heap.size (w1.setCell ⟨d, 8 + mid.length, none⟩ v').heap.size) ∧ But X w (w1.setCell ⟨d, 8 + mid.length, none⟩ v') := by
  obtain ⟨o, h1, h2, h3, h4, h5, h6, h7⟩ := r
  have hlen : (h.map vI ++ (mid ++ [o])).length = 8 + mid.length + 1 := by simp [h2]; omega
  have hat : (h.map vI ++ (mid ++ [o]))[8 + mid.length]? = some o := by
    rw [List.getElem?_append_right (by simp [h2]), List.length_map, h2, Nat.add_sub_cancel_left, List.getElem?_append_right (Nat.le_refl _), Nat.sub_self]; rfl
  refine ⟨o, h1.cell _ _ hat, h4, h7, fun W1 w1 tr' v' hbw hg ho hown => ?_⟩
  have hz1 := hbw.size
  have hz2 := hg.size
  have hdl := h1.lt
  have hnd : ¬ (o.ownBlock = some d) := fun e => (h7 d e).2 rfl
  have hb1 : Blk base w1 d (h.map vI ++ (mid ++ [o])) := (h1.below hbw).but (But.of_grown hg) hnd
  have hownlt : ∀ k, v'.ownBlock = some k → base ≤ k ∧ k < w1.heap.size := ho.lt
  have hnd' : ∀ k, v'.ownBlock = some k → k ≠ d := fun k hk e => by
    subst e
    rcases hown with h | ⟨q, h, hq⟩
    · rw [h] at hk; exact hnd hk
    · rw [h] at hk; injection hk with hk; omega
  refine ⟨hb1.fr _, by rw [hb1.cell _ _ hat]; rfl, fun b => X b ∨ v'.ownBlock = some b, ⟨v', ?_, h2, h3, ho.but ((But.refl (Is d) w1).setCell (p := ⟨d, 8 + mid.length, none⟩) rfl v') (fun k hk e => hnd' k hk e), .inl h5, ?_, fun k hk => ⟨.inr hk, hnd' k hk⟩⟩, ?_, ?_⟩
  · have := hb1.set (i := 8 + mid.length) (by omega) v'
    rw [List.set_append_right _ _ (by simp [h2]), List.length_map, h2, Nat.add_sub_cancel_left, List.set_append_right _ _ (Nat.le_refl _), Nat.sub_self] at this
    exact this
  · rintro b (hb | hb)
    · exact ⟨(h6 b hb).1, by rw [size_setCell]; have := (h6 b hb).2; omega⟩
    · exact ⟨(hownlt b hb).1, by rw [size_setCell]; exact (hownlt b hb).2⟩
  · rintro b (hb | hb)
    · exact .inl hb
    · rcases hown with h | ⟨q, h, hq⟩
      · rw [h] at hb; exact .inl (h7 b hb).1
      · rw [h] at hb; injection hb with hb; exact .inr ⟨by omega, by rw [size_setCell]; have := (hownlt b (by rw [h, hb])).2; omega⟩
  · have hbx : But X w w1 := ((But.of_below (T := X) hbw)).trans ((But.of_grown hg).sub (fun k hk => (h7 k hk).1))
    exact hbx.setCell (p := ⟨d, 8 + mid.length, none⟩) h5 v'
end
/-- the run that has come to m, with marks; e: marks that are still to come behind those that are open -/
def NnAt (base : Nat) (w : World) (d : Nat) (X : Blocks) (F e : Nat) (m : US) (ms : List NM) : Prop := HnAt base w d X [vI (m.st : Int)] m.h ms ∧ ms.length + e ≤ 3 * m.st ∧ m.st ≤ F ∧ F ≤ 2000
theorem NnAt.lt {base : Nat} {w : World} {d : Nat} {X : Blocks} {F e : Nat} {m : US} {ms : List NM} (h : NnAt base w d X F e m ms) : ∀ k, X k → k < w.heap.size := fun k hk => (h.1.bd k hk).2
theorem NnAt.step {base : Nat} {w : World} {d : Nat} {X : Blocks} {F e : Nat} {m : US} {ms : List NM} (h : NnAt base w d X F e m ms) (hf : m.st < F) : NnAt base (w.setCell ⟨d, 8, none⟩ (vI ((m.st : Int) + 1))) d X F e m.step ms ∧ But X w (w.setCell ⟨d, 8, none⟩ (vI ((m.st : Int) + 1))) := by
  obtain ⟨q1, q2⟩ := HnAt.setMid h.1 (n := 0) (by simp) (vI ((m.st : Int) + 1))
  have hc : ((m.step.st : Nat) : Int) = (m.st : Int) + 1 := by simp [US.step]
  have h2 := h.2.1
  have h3 := h.2.2.2
  refine ⟨⟨?_, by simp only [US.step]; omega, by simp only [US.step]; omega, h3⟩, q2⟩
  rw [hc]
  exact q1
/-- where a run ended for lack of fuel: the row of marks is still one -/
def NnEnd (base : Nat) (w : World) (d : Nat) (X : Blocks) (F e : Nat) : Prop := ∃ (s : Int) (h : List Int) (ms : List NM), HnAt base w d X [vI s] h ms ∧ ms.length + e ≤ 3 * F + 3 ∧ F ≤ 2000
theorem NnAt.end_ {base : Nat} {w : World} {d : Nat} {X : Blocks} {F e : Nat} {m : US} {ms : List NM} (h : NnAt base w d X F e m ms) : NnEnd base w d X F e := ⟨_, _, _, h.1, by have := h.2.1; have := h.2.2.1; omega, h.2.2.2⟩
theorem NnAt.spent {base : Nat} {w : World} {d : Nat} {X : Blocks} {F e : Nat} {m : US} {ms : List NM} (h : NnAt base w d X F e m ms) (v : Int) : NnEnd base (w.setCell ⟨d, 8, none⟩ (vI v)) d X F e ∧ But X w (w.setCell ⟨d, 8, none⟩ (vI v)) :=
  ⟨⟨v, _, _, (HnAt.setMid h.1 (n := 0) (by simp) (vI v)).1, by have := h.2.1; have := h.2.2.1; omega, h.2.2.2⟩, (HnAt.setMid h.1 (n := 0) (by simp) (vI v)).2⟩
theorem NnEnd.but {base : Nat} {w w' : World} {d : Nat} {X T : Blocks} {F e : Nat} (h : NnEnd base w d X F e) (hb : But T w w') (hT : ∀ b, X b → ¬ T b) : NnEnd base w' d X F e := by
  obtain ⟨s, hh, ms, h1, h2, h3⟩ := h
  exact ⟨s, hh, ms, h1.but hb hT, h2, h3⟩
/-- what a run by marks comes to -/
def OutN (base d F e : Nat) (w : World) (X : Blocks) (ms : List NM) : Option (List Mk × US) → Ending → World → Prop
  | some x, en, w' => en = .returned (.bool true) ∧ (∃ X', NnAt base w' d X' F e x.2 (ms ++ flatL x.1) ∧ Sub X' (Plus X w.heap.size w'.heap.size)) ∧ But X w w'
  | none, en, w' => en = .returned (.bool false) ∧ (∃ X', NnEnd base w' d X' F e ∧ Sub X' (Plus X w.heap.size w'.heap.size)) ∧ But X w w'
def PNb (F : Nat) (l : List St) : Prop := ∀ (base : Nat) (w : World) (d : Nat) (X : Blocks) (e : Nat) (m : US) (ms : List NM) (env : List Bd) (lab : Nat) (S : Blocks) (v ve : Value), NnAt base w d X F e m ms → Sub S (Upto base) → RdSts w S l v → FrX X w env ve → env.length ≤ m.st → lab + labelsL l ≤ 1048576 → St.wts l ≤ 1048576 →
  ∀ r, blN F l env lab m = r → Calls Try.prog 28 #[.pointer (some ⟨d, 0, none⟩), v, vI (lab : Int), ve, vI (F : Int)] w (OutN base d F e w X ms r)
section
variable {F : Nat} {k : Int} {s : ByteArray} {a b : Ex} {body els : List St} {env : List Bd} {lab : Nat} {m : US}
theorem stN_other (h : k < 1 ∨ 7 < k) : stN F (.mk k s a b body els) env lab m = some ([], m, env) := by rw [stN, if_pos h]
theorem stN_none (h : ¬ (k < 1 ∨ 7 < k)) (hf : ¬ m.st < F) : stN F (.mk k s a b body els) env lab m = none := by rw [stN, if_neg h, if_pos hf]
theorem stN_let (hf : m.st < F) : stN F (.mk 1 s a b body els) env lab m = some ([], m.step, env ++ [⟨s, a.worth env⟩]) := by
  rw [stN, if_neg (by omega), if_neg (by simpa using hf), if_pos rfl]
theorem stN_load (hf : m.st < F) : stN F (.mk 2 s a b body els) env lab m = some ([.acc (accU (a.worth env) false lab)], m.step, env ++ [⟨s, m.get (a.worth env)⟩]) := by
  rw [stN, if_neg (by omega), if_neg (by simpa using hf), if_neg (by omega), if_pos rfl]
theorem stN_store (hf : m.st < F) : stN F (.mk 3 s a b body els) env lab m = some ([.acc (accU (a.worth env) true lab)], m.step.put (a.worth env) (b.worth env), env) := by
  rw [stN, if_neg (by omega), if_neg (by simpa using hf), if_neg (by omega), if_neg (by omega), if_pos rfl]
theorem stN_par (hf : m.st < F) : stN F (.mk 4 s a b body els) env lab m = (blN F body env lab m.step).map fun x => ([.par x.1], x.2, env) := by
  rw [stN, if_neg (by omega), if_neg (by simpa using hf), if_neg (by omega), if_neg (by omega), if_neg (by omega), if_pos rfl]
theorem stN_fin (hf : m.st < F) : stN F (.mk 5 s a b body els) env lab m = (blN F body env lab m.step).map fun x => ([.fin x.1], x.2, env) := by
  rw [stN, if_neg (by omega), if_neg (by simpa using hf), if_neg (by omega), if_neg (by omega), if_neg (by omega), if_neg (by omega), if_pos rfl]
theorem stN_then (hf : m.st < F) (hw : ¬ a.worth env = 0) : stN F (.mk 6 s a b body els) env lab m = (blN F body env lab m.step).map fun x => (x.1, x.2, env) := by
  rw [stN, if_neg (by omega), if_neg (by simpa using hf), if_neg (by omega), if_neg (by omega), if_neg (by omega), if_neg (by omega), if_neg (by omega), if_pos rfl, if_neg hw]
theorem stN_else (hf : m.st < F) (hw : a.worth env = 0) : stN F (.mk 6 s a b body els) env lab m = (blN F els env (lab + labelsL body) m.step).map fun x => (x.1, x.2, env) := by
  rw [stN, if_neg (by omega), if_neg (by simpa using hf), if_neg (by omega), if_neg (by omega), if_neg (by omega), if_neg (by omega), if_neg (by omega), if_pos rfl, if_pos hw]
theorem stN_for (hf : m.st < F) : stN F (.mk 7 s a b body els) env lab m = (loopN F (b.worth env) (fun i m => blN F body (env ++ [⟨s, i⟩]) lab m) (F + 1) (a.worth env) m.step).map fun x => (x.1, x.2, env) := by
  rw [stN, if_neg (by omega), if_neg (by simpa using hf), if_neg (by omega), if_neg (by omega), if_neg (by omega), if_neg (by omega), if_neg (by omega), if_neg (by omega)]
end
theorem blN_drop (F : Nat) (l : List St) {q : Nat} (h : q < l.length) (env : List Bd) (lab : Nat) (m : US) : blN F (l.drop q) env lab m = (stN F l[q] env lab m).bind fun x => (blN F (l.drop (q + 1)) x.2.2 (lab + labelsS l[q]) x.2.1).map fun y => (x.1 ++ y.1, y.2) := by
  rw [List.drop_eq_getElem_cons h, blN_cons]
end Go.Proofs.Ytdelngmbpjgphaa
