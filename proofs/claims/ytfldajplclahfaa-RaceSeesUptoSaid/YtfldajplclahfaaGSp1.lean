/- Texts merged: AppStep, Sp1. -/
import Derived.Test.YtfldajplclahfaaFlat
import Derived.Deep.AppendLies
import Derived.Test.YtfldajplclahfaaSpSpec
import Derived.Test.YtfldajplclahfaaGRdT
import Derived.BigRegion
import Derived.StillTailTactics
/- 'append' at a step of a region that draws its order, said of rows that read as lists. -/
namespace Go.Proofs.Ytfldajplclahfaa
open Go.RowKit
set_option linter.unusedVariables false
section
variable {P : Program} {α : Type} {rd : World → Blocks → α → List Value → Prop} {size bytes : Nat} {E : TypeId} {w : World} {base : Nat} {S Tx U : Blocks} {l m : List α} {v : Value} {A : Option Addr} {n c : Nat}
/-- 'append(s, y...)' at a step of a region that draws -/
theorem step_append_list {ops : Array Oper} {o : Oper} {a : Act} {K : Act → World → Prop} {Q : Exit → Act → World → Prop} {Z : Prop} (hgd : o.guard = none) (s y : Operand) (t : TypeId) (ho : o.op = .call { callee := .builtin .append, args := #[s, y], argTypes := #[t, t] })
    (hs : a.eval s = v) (hy : a.eval y = .slice A n c)
    (i : TypeInfo) (z : Value) (ht : P.underlying t = some (.slice E)) (hi : P.info? E = some i) (hz : i.zero = some z) (hsize : i.size = size) (hby : i.bytes = bytes) (hzs : z.cells.size = size) (hsz : 0 < size)
    (hr : Keeps rd) (hx : RdL (fun w' _ e cs => rd w' Tx e cs) size bytes w U m (.slice A n c)) (hown : OwnL rd size E w base S l v) (t1 : Sub Tx S) (t2 : Sub Tx (Upto w.heap.size)) (t3 : ∀ k, v.ownBlock = some k → ¬ Tx k)
    (h1 : ∀ e cs, rd w Tx e cs → ∀ u ∈ cs, u.oneCell' = true) (h63 : l.length + m.length ≤ maxLen) (hbytes : (l.length + m.length) * bytes ≤ 140737488355328) (hbase : base ≤ w.heap.size)
    (h : ∀ v' w', OwnL rd size E w' base S (l ++ m) v' → w.grownBy w' v.ownBlock → (v'.ownBlock = v.ownBlock ∨ v'.ownBlock = some w.heap.size) → K (a.put o.dst v') w') :
    if Region.wanted o (yielded ops a.tmps) = true then Oper.wp P o a w K Q else Z := by
  have hw : Region.wanted o (yielded ops a.tmps) = true := by simp [Region.wanted, hgd]
  rw [if_pos hw]
  exact wp_append_list s y t ho i z ht hi hz hsize hby hzs hsz hr hown hx hs hy t1 t2 t3 h1 h63 hbytes hbase h
end
theorem rdI_one {w : World} {S : Blocks} {g : Nat} {x : Int} (h : w.cell? ⟨g, 0, none⟩ = some (.int .i64 x)) (hx : inI x) (hg : S g) : RdI w S [x] (.slice (some ⟨g, 0, none⟩) 1 1) :=
  ⟨_, 1, [[.int .i64 x]], rfl, Nat.le_refl _, by simp [maxLen], by simp, rfl, ⟨by simp, fun _ => ⟨g, 0, rfl, hg, fun i cs hi j v hv => by
    match i, hi with
    | 0, hi =>
      simp at hi; subst hi
      match j, hv with
      | 0, hv => simp at hv; subst hv; simpa using h⟩⟩, fun i e cs hi hc => by
    match i, hi, hc with
    | 0, hi, hc => simp at hi hc; subst hi hc; exact ⟨rfl, hx⟩⟩
theorem frozen_of_heap {w w' : World} {b o : Nat} {sp : Option Nat} (h : w'.heap[b]? = w.heap[b]?) : w'.frozen? ⟨b, o, sp⟩ = w.frozen? ⟨b, o, sp⟩ := by
  simp only [World.frozen?, h]
theorem rd_one {α : Type} {enc : α → List Value} {ok : α → Prop} {size bytes : Nat} {w : World} {S : Blocks} {g : Nat} {x : α} (hlen : (enc x).length = size) (h : ∀ (j : Nat) v, (enc x)[j]? = some v → w.cell? ⟨g, j, none⟩ = some v) (hx : ok x) (hg : S g) (hb : bytes ≤ 140737488355328) : RdL (Flat enc ok) size bytes w S [x] (.slice (some ⟨g, 0, none⟩) 1 1) :=
  ⟨_, 1, [enc x], rfl, Nat.le_refl _, by simp [maxLen], by simpa using hb, rfl, ⟨by simpa using hlen, fun _ => ⟨g, 0, rfl, hg, fun i cs hi j v hv => by
    match i, hi with
    | 0, hi => simp at hi; subst hi; simpa using h j v hv⟩⟩, fun i e cs hi hc => by
    match i, hi, hc with
    | 0, hi, hc => simp at hi hc; subst hi hc; exact ⟨rfl, hx⟩⟩
theorem cells_newAt (w : World) (vs : List Value) (E : TypeId) {g : Nat} (h : w.heap.size = g) : ∀ (j : Nat) v, vs[j]? = some v → (w.alloc (.cells vs.toArray E)).drew.cell? ⟨g, j, none⟩ = some v := by
  subst h
  intro j v hv
  have h := heap_alloc_new w (.cells vs.toArray E)
  show (w.alloc (.cells vs.toArray E)).cell? ⟨w.heap.size, j, none⟩ = some v
  unfold World.cell?
  simp only [h]
  simpa using hv
theorem grown_frozen {w w' : World} {row : Option Nat} (h : w.grownBy w' row) {b o : Nat} (hf : w.frozen? ⟨b, o, none⟩ = false) (hlt : b < w.heap.size) (hn : row ≠ some b) : w'.frozen? ⟨b, o, none⟩ = false := by
  rw [frozen_of_heap (h.block b hlt (fun e => hn e.symm))]; exact hf
theorem Sub.plus_mono2 {S : Blocks} (n m : Nat) : Sub (Plus Nowhere n m) (Plus S n m) := fun b h => h.elim (fun h => h.elim) .inr
theorem cell_new1 (w : World) (x : Value) (E : TypeId) : (w.alloc (.cells #[x] E)).cell? ⟨w.heap.size, 0, none⟩ = some x := by simp
theorem cell_newAt (w : World) (x : Value) (E : TypeId) {g : Nat} (h : w.heap.size = g) : (w.alloc (.cells #[x] E)).drew.cell? ⟨g, 0, none⟩ = some x := by subst h; exact cell_new1 w x E
theorem cell_oldAt (w : World) (x : Value) (E : TypeId) (o : Obj) : ((w.alloc (.cells #[x] E)).alloc o).drew.cell? ⟨w.heap.size, 0, none⟩ = some x :=
  (World.cell?_alloc_lt (w.alloc (.cells #[x] E)) o ⟨w.heap.size, 0, none⟩ (by simp)).trans (cell_new1 w x E)
theorem ownBlock_ne {g k n c : Nat} (h : g ≠ k) : (Value.slice (some ⟨g, 0, none⟩) n c).ownBlock ≠ some k := fun e => h (Option.some.inj e)
/-- the world after an append keeps the cells of other blocks -/
theorem grown_cell {w w' : World} {row : Option Nat} (h : w.grownBy w' row) {b o : Nat} {v : Value} (hc : w.cell? ⟨b, o, none⟩ = some v) (hn : row ≠ some b) : w'.cell? ⟨b, o, none⟩ = some v := by
  have hlt : b < w.heap.size := World.block_lt_of_cell? w _ hc
  rw [World.cell?_of_block (a := ⟨b, o, none⟩) (h.block b hlt (fun e => hn e.symm))]; exact hc
section
variable {α : Type} {rd : World → Blocks → α → List Value → Prop} {size bytes : Nat} {w : World} {S : Blocks} {l : List α}
theorem OwnL.emptyAt {E : TypeId} {base g : Nat} (hb : base ≤ w.heap.size) (hg : w.heap.size = g) : OwnL rd size E (w.alloc (.cells #[] E)) base S [] (.slice (some ⟨g, 0, none⟩) 0 0) := by
  subst hg; exact OwnL.empty w hb
/-- behind the first k of it -/
theorem RdL.drop {A : Option Addr} {n cap k : Nat} (h : RdL rd size bytes w S l (.slice A n cap)) (hk : k ≤ l.length) :
    RdL rd size bytes w S (l.drop k) (.slice (A.map fun a => a.add (k * size)) (n - k) (cap - k)) := by
  obtain ⟨A', cap', css, h1, h2, h3, h4, h5, h6, h7⟩ := h
  injection h1 with e1 e2 e3
  subst e1 e2 e3
  refine ⟨_, _, css.drop k, by rw [List.length_drop], by rw [List.length_drop]; omega, by omega, ?_, by simp [h5], ⟨fun cs hcs => h6.1 cs (List.mem_of_mem_drop hcs), fun hne => ?_⟩, fun i e cs hi hc => ?_⟩
  · rw [List.length_drop]; exact Nat.le_trans (Nat.mul_le_mul_right _ (by omega)) h4
  · obtain ⟨b, off, hA, hb, hc⟩ := h6.2 (by intro h; subst h; simp at hne)
    subst hA
    refine ⟨b, off + k * size, by simp only [Option.map_some, Addr.add]; split <;> simp_all, hb, fun i cs hi j v hv => ?_⟩
    rw [List.getElem?_drop] at hi
    have := hc (k + i) cs hi j v hv
    rw [Nat.add_mul] at this
    rw [show off + k * size + (i * size + j) = off + (k * size + i * size + j) by omega]
    exact this
  · rw [List.getElem?_drop] at hi hc
    exact h7 _ e cs hi hc
/-- the same at an end of the capacity: where it lies says nothing -/
theorem RdL.any {A A' : Option Addr} {cap cap' : Nat} (h : RdL rd size bytes w S [] (.slice A 0 cap)) (hc : cap' ≤ maxLen) : RdL rd size bytes w S [] (.slice A' 0 cap') := RdL.nil hc
end
end Go.Proofs.Ytfldajplclahfaa
/- The walks of sp.Leaves: a visitor that gathers. -/
namespace Go.Proofs.Ytfldajplclahfaa
open Go.RowKit
set_option linter.unusedVariables false
/-- block d gathers leaves: its blocks are X -/
def LvAt (base : Nat) (w : World) (d : Nat) (X : Blocks) (l : List Acc) : Prop :=
  ∃ v, Blk base w d [v] ∧ OwnAccs 23 w base Nowhere l v ∧ X d ∧ (∀ b, X b → base ≤ b ∧ b < w.heap.size) ∧ (∀ k, v.ownBlock = some k → X k ∧ k ≠ d)
theorem LvAt.but {base : Nat} {w w' : World} {d : Nat} {X T : Blocks} {l : List Acc} (h : LvAt base w d X l) (hb : But T w w') (hT : ∀ b, X b → ¬ T b) : LvAt base w' d X l := by
  obtain ⟨v, h1, h2, h3, h4, h5⟩ := h
  exact ⟨v, h1.but hb (hT _ h3), h2.but hb (fun k hk => hT _ (h5 k hk).1), h3, fun b hx => ⟨(h4 b hx).1, Nat.lt_of_lt_of_le (h4 b hx).2 hb.size⟩, h5⟩
set_option maxHeartbeats 1000000 in
theorem lv_snoc {base : Nat} {W W1 w1 : World} {d : Nat} {X : Blocks} {l' : List Acc} {v v' : Value} (h1 : Blk base W d [v]) (h3 : X d) (h4 : ∀ b, X b → base ≤ b ∧ b < W.heap.size) (h5 : ∀ k, v.ownBlock = some k → X k ∧ k ≠ d)
    (hbw : Below W.heap.size W W1) (hg : W1.grownBy w1 v.ownBlock) (ho : OwnAccs 23 w1 base Nowhere l' v') (hown : v'.ownBlock = v.ownBlock ∨ v'.ownBlock = some W1.heap.size) :
    ∃ X', LvAt base (w1.setCell ⟨d, 0, none⟩ v') d X' l' ∧ Sub X' (Plus X W.heap.size (w1.setCell ⟨d, 0, none⟩ v').heap.size) ∧ But X W (w1.setCell ⟨d, 0, none⟩ v') := by
  have hz1 := hbw.size
  have hz2 := hg.size
  have hdl := h1.lt
  have hnd : ¬ (v.ownBlock = some d) := fun e => (h5 d e).2 rfl
  have hb1 : Blk base w1 d [v] := (h1.below hbw).but (But.of_grown hg) hnd
  have hownlt : ∀ k, v'.ownBlock = some k → base ≤ k ∧ k < w1.heap.size := ho.lt
  have hnd' : ∀ k, v'.ownBlock = some k → k ≠ d := fun k hk e => by
    subst e
    rcases hown with h | h
    · rw [h] at hk; exact hnd hk
    · rw [h] at hk; injection hk with hk; omega
  refine ⟨fun b => X b ∨ v'.ownBlock = some b, ⟨v', hb1.set (i := 0) (by simp) v', ho.but ((But.refl (Is d) w1).setCell (p := ⟨d, 0, none⟩) rfl v') (fun k hk e => hnd' k hk e), .inl h3, ?_, fun k hk => ⟨.inr hk, hnd' k hk⟩⟩, ?_, ?_⟩
  · rintro b (hb | hb)
    · exact ⟨(h4 b hb).1, by rw [size_setCell]; have := (h4 b hb).2; omega⟩
    · exact ⟨(hownlt b hb).1, by rw [size_setCell]; exact (hownlt b hb).2⟩
  · rintro b (hb | hb)
    · exact .inl hb
    · rw [size_setCell]
      rcases hown with h | h
      · rw [h] at hb; exact .inl (h5 b hb).1
      · have h2 := (hownlt b hb).2
        rw [h] at hb; injection hb with hb; exact .inr ⟨by omega, h2⟩
  · have k1 : But X W W1 := But.of_below hbw
    have k2 : But X W w1 := k1.trans ((But.of_grown hg).sub (fun b hb => (h5 b hb).1))
    exact k2.setCell (p := ⟨d, 0, none⟩) h3 v'
theorem lv_first {base : Nat} {w W W' : World} {d : Nat} {X : Blocks} {l' : List Acc} (hb : Below w.heap.size w W) (h : ∃ X', LvAt base W' d X' l' ∧ Sub X' (Plus X W.heap.size W'.heap.size) ∧ But X W W') :
    ∃ X', LvAt base W' d X' l' ∧ Sub X' (Plus X w.heap.size W'.heap.size) ∧ But X w W' := by
  obtain ⟨X', h1, h2, h3⟩ := h
  exact ⟨X', h1, h2.trans (Sub.plus_mono hb.size (Nat.le_refl _)), (But.of_below hb).trans h3⟩
set_option maxHeartbeats 1000000 in
set_option maxRecDepth 100000 in
theorem lone_any {base : Nat} {w : World} {d : Nat} {X : Blocks} {l : List Acc} (h : LvAt base w d X l) (hl : l.length ≤ 1048576) (c : Int) (wr : Bool) (lb : Int) (hc : inI c) (hlb : inI lb) :
    Calls Try.prog 104 #[.pointer (some ⟨d, 0, none⟩), accV c wr lb] w fun e w' => e = .returned (.tuple #[]) ∧ ∃ X', LvAt base w' d X' (l ++ [⟨c, wr, lb⟩]) ∧ Sub X' (Plus X w.heap.size w'.heap.size) ∧ But X w w' := by
  obtain ⟨i0, hi, hz0, hz1, hz2⟩ := info_parts infoAcc
  obtain ⟨v, h1, h2, h3, h4, h5⟩ := h
  have hb1 : Below w.heap.size w (w.alloc (.cells #[.int .i64 c, .bool wr, .int .i64 lb] 23)) := (Below.refl _ _).alloc (Nat.le_refl _) _
  have H1 := Lib.hid (h1.below hb1)
  have H2 := Lib.hid (h2.keep Flat.keeps hb1)
  have H4 := Lib.hid h4
  have H5 := Lib.hid h5
  have hdl := h1.lt
  have BX := Lib.hid (Blk.made w [.int .i64 c, .bool wr, .int .i64 lb] 23 (base := 0) (Nat.zero_le _))
  obtain ⟨A, cp, rfl⟩ := h2.form
  have hbx : But X w (w.alloc (.cells #[.int .i64 c, .bool wr, .int .i64 lb] 23)) := But.of_below hb1
  have hsz : (w.alloc (.cells #[.int .i64 c, .bool wr, .int .i64 lb] 23)).heap.size = w.heap.size + 1 := by simp
  obtain ⟨z, hz⟩ : ∃ z, z = w.heap.size := ⟨_, rfl⟩
  have HB1 := Lib.hid hb1
  clear h1 h2 h4 h5 hb1
  go_enter Try.func104, Try.ntmps104
  go_upto_region 1 with (fail)
  generalize w.alloc (.cells #[.int .i64 c, .bool wr, .int .i64 lb] 23) = W at *
  rw [← hz] at hsz hdl BX ⊢
  have hz1' := Nat.le_of_eq hz
  have hz2' := Nat.le_of_eq hz.symm
  have hs1 := Nat.le_of_eq hsz
  have hs2 := Nat.le_of_eq hsz.symm
  clear hz hsz
  have d0 := H1.out.cell 0 _ rfl
  have f0 := H1.out.fr 0
  have x0 := BX.out.cell 0 _ rfl
  have x1 := BX.out.cell 1 _ rfl
  have x2 := BX.out.cell 2 _ rfl
  have m1 := Lib.hid (show l.length + [(⟨c, wr, lb⟩ : Acc)].length ≤ maxLen by unfold maxLen; simp; omega)
  have m2 := Lib.hid (show (l.length + [(⟨c, wr, lb⟩ : Acc)].length) * 24 ≤ 140737488355328 by simp; omega)
  have hok : okAcc ⟨c, wr, lb⟩ := ⟨hc, hlb⟩
  have H2d := Lib.hid (H2.out.keep Flat.keeps ((Below.refl _ _).alloc (Nat.le_refl _) (.cells #[.int .i64 c, .bool wr, .int .i64 lb] 23)).drew)
  have HB := Lib.hid (show base ≤ (W.alloc (.cells #[.int .i64 c, .bool wr, .int .i64 lb] 23)).drew.heap.size from Nat.le_trans (H1.out.rebase (Nat.le_refl _)).ge (by have := H1.out.lt; show d ≤ (W.alloc _).heap.size; rw [World.size_alloc]; omega))
  have hnd : (Value.slice A l.length cp).ownBlock ≠ some d := fun e => (H5.out d e).2 rfl
  have HND := Lib.hid hnd
  have hdW : d < W.heap.size := H1.out.lt
  have HRD := Lib.hid (show RdL (Flat encAcc okAcc) 3 24 (W.alloc (.cells #[.int .i64 c, .bool wr, .int .i64 lb] 23)).drew (fun _ => True) [⟨c, wr, lb⟩] (.slice (some ⟨W.heap.size, 0, none⟩) 1 1) from rd_one (enc := encAcc) (x := ⟨c, wr, lb⟩) rfl (cells_newAt W [.int .i64 c, .bool wr, .int .i64 lb] 23 rfl) hok trivial (by decide))
  clear hnd
  go_region_law ((refine step_append_list (by rfl) (.tmp 8) (.tmp 10) 43 (by rfl) (by rfl) (by rfl) i0 _ Try.underlying43 hi hz0 hz1 hz2 rfl (by decide) Flat.keeps (l := l) (m := [⟨c, wr, lb⟩]) (base := base) (S := Nowhere) (Tx := Nowhere) (U := fun _ => True) (v := .slice A l.length cp) (RdL.bare HRD.out _) H2d.out (Sub.nowhere _) (Sub.nowhere _) not_nowhere oneAcc m1.out m2.out HB.out ?_; intro v' w1 ho1 hg1 hw1; obtain ⟨A', c', rfl⟩ := ho1.form; have k0 : w1.cell? ⟨d, 0, none⟩ = some (.slice A l.length cp) := grown_cell hg1 (H1.out.below ((Below.refl _ _).alloc (Nat.le_refl _) _).drew |>.cell 0 _ rfl) HND.out; have kf : w1.frozen? ⟨d, 0, none⟩ = false := grown_frozen hg1 (H1.out.below ((Below.refl _ _).alloc (Nat.le_refl _) _).drew |>.fr 0) (H1.out.below ((Below.refl _ _).alloc (Nat.le_refl _) _).drew |>.lt) HND.out))
  all_goals go_end0
  all_goals
    rw [List.length_append, List.length_singleton] at ho1 hw1
    refine ⟨rfl, lv_first HB1.out ?_⟩
    refine lv_snoc H1.out h3 (fun b hb => ⟨(H4.out b hb).1, by have := (H4.out b hb).2; omega⟩) H5.out ((Below.refl _ _).alloc (Nat.le_refl _) _).drew hg1 ?_ hw1
    exact ho1
end Go.Proofs.Ytfldajplclahfaa
