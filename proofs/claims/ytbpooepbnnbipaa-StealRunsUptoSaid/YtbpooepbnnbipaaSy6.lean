/- The row of parts while it grows. -/
import Derived.Test.YtbpooepbnnbipaaSy1
import Derived.Test.YtbpooepbnnbipaaRdT
import Derived.Test.YtbpooepbnnbipaaOwnSet
import Derived.Test.YtbpooepbnnbipaaStSet
namespace Go.Proofs.Ytbpooepbnnbipaa
open Go.RowKit
set_option linter.unusedVariables false
def okPt (x : PtP × Bool) : Prop := True
theorem encPt_len (x : PtP × Bool) : (encPt x).length = 7 := rfl
theorem onePt {w : World} {S : Blocks} : ∀ (e : PtP × Bool) (cs : List Value), Flat encPt okPt w S e cs → ∀ u ∈ cs, u.oneCell' = true := by
  rintro e cs ⟨rfl, _⟩ u hu
  simp [encPt] at hu
  rcases hu with rfl | rfl | rfl | rfl | rfl | rfl | rfl <;> simp [Value.oneCell']
theorem infoPt : (Try.prog.info? 100).map (fun i => (i.zero, i.size, i.bytes)) = some (some (.agg #[.int .i64 0, .int .i64 0, .int .i64 0, .int .i64 0, .int .i64 0, .bool false, .bool false]), 7, 48) := by kernel_rfl
theorem OwnL.rowAt {α : Type} {enc : α → List Value} {ok : α → Prop} {size : Nat} {E : TypeId} {w : World} {base : Nat} {S : Blocks} {l : List α} {v : Value} (h : OwnL (Flat enc ok) size E w base S l v) (hne : 0 < l.length) : ∃ g cap, v = .slice (some ⟨g, 0, none⟩) l.length cap ∧ RowAt enc size base w g l := by
  obtain ⟨g, cap, e, h1, h2, _, _, h3, h4⟩ := h.flat hne
  refine ⟨g, cap, e, h1, h2, fun i x hi j u hu => ?_, h3⟩
  have hl := (List.getElem?_eq_some_iff.1 hi).1
  have hx := (List.getElem?_eq_some_iff.1 hi).2
  exact (h4 i hl).2 j u (by rw [hx]; exact hu)
theorem set_last {α : Type} (l : List α) (a b : α) : (l ++ [a]).set l.length b = l ++ [b] := by
  rw [List.set_append_right _ _ (Nat.le_refl _), Nat.sub_self, List.set_cons_zero]
theorem set_mid {α : Type} (l : List α) (a b : α) (m n : List α) : (((l ++ [a]) ++ m) ++ n).set l.length b = l ++ (b :: (m ++ n)) := by
  have e : ((l ++ [a]) ++ m) ++ n = l ++ (a :: (m ++ n)) := by simp
  rw [e, List.set_append_right _ _ (Nat.le_refl _), Nat.sub_self, List.set_cons_zero]
theorem get_mid {α : Type} (l : List α) (a : α) (m n : List α) : (((l ++ [a]) ++ m) ++ n)[l.length]? = some a := by
  have e : ((l ++ [a]) ++ m) ++ n = l ++ (a :: (m ++ n)) := by simp
  rw [e, List.getElem?_append_right (Nat.le_refl _), Nat.sub_self]; rfl
/-- all seven cells of one element -/
def seven (w : World) (g q : Nat) (x : PtP × Bool) : World := ((((((w.setCell ⟨g, q * 7, none⟩ (.int .i64 x.1.kind)).setCell ⟨g, q * 7 + 1, none⟩ (.int .i64 x.1.leaf)).setCell ⟨g, q * 7 + 2, none⟩ (.int .i64 x.1.left)).setCell ⟨g, q * 7 + 3, none⟩ (.int .i64 x.1.right)).setCell ⟨g, q * 7 + 4, none⟩ (.int .i64 x.1.up)).setCell ⟨g, q * 7 + 5, none⟩ (.bool x.1.onR)).setCell ⟨g, q * 7 + 6, none⟩ (.bool x.2)
theorem OwnL.set7 {E : TypeId} {w : World} {base : Nat} {S : Blocks} {l : List (PtP × Bool)} {g n cap : Nat} (h : OwnL (Flat encPt okPt) 7 E w base S l (.slice (some ⟨g, 0, none⟩) n cap)) {q : Nat} (hq : q < l.length) (x : PtP × Bool) : OwnL (Flat encPt okPt) 7 E (seven w g q x) base S (l.set q x) (.slice (some ⟨g, 0, none⟩) n cap) := by
  obtain ⟨z, hz⟩ : ∃ z, l[q] = z := ⟨_, rfl⟩
  obtain ⟨⟨k0, f0, l0, r0, u0, o0⟩, d0⟩ := z
  obtain ⟨⟨k1, f1, l1, r1, u1, o1⟩, d1⟩ := x
  have a0 := h.setJ encPt_len hq (j := 0) (by decide) (⟨k1, f0, l0, r0, u0, o0⟩, d0) (.int .i64 k1) (by rw [hz]; rfl) trivial
  have a1 := a0.setJ encPt_len (q := q) (by simpa using hq) (j := 1) (by decide) (⟨k1, f1, l0, r0, u0, o0⟩, d0) (.int .i64 f1) (by rw [List.getElem_set_self]; rfl) trivial
  have a2 := a1.setJ encPt_len (q := q) (by simpa using hq) (j := 2) (by decide) (⟨k1, f1, l1, r0, u0, o0⟩, d0) (.int .i64 l1) (by rw [List.getElem_set_self]; rfl) trivial
  have a3 := a2.setJ encPt_len (q := q) (by simpa using hq) (j := 3) (by decide) (⟨k1, f1, l1, r1, u0, o0⟩, d0) (.int .i64 r1) (by rw [List.getElem_set_self]; rfl) trivial
  have a4 := a3.setJ encPt_len (q := q) (by simpa using hq) (j := 4) (by decide) (⟨k1, f1, l1, r1, u1, o0⟩, d0) (.int .i64 u1) (by rw [List.getElem_set_self]; rfl) trivial
  have a5 := a4.setJ encPt_len (q := q) (by simpa using hq) (j := 5) (by decide) (⟨k1, f1, l1, r1, u1, o1⟩, d0) (.bool o1) (by rw [List.getElem_set_self]; rfl) trivial
  have a6 := a5.setJ encPt_len (q := q) (by simpa using hq) (j := 6) (by decide) (⟨k1, f1, l1, r1, u1, o1⟩, d1) (.bool d1) (by rw [List.getElem_set_self]; rfl) trivial
  simp only [List.set_set] at a6
  exact a6
theorem But.set7 {T : Blocks} {a b : World} (h : But T a b) {g : Nat} (hg : T g ∨ a.heap.size ≤ g) (q : Nat) (x : PtP × Bool) : But T a (seven b g q x) := by
  unfold seven
  exact ((((((h.setNew (p := ⟨g, q * 7, none⟩) hg _).setNew (p := ⟨g, q * 7 + 1, none⟩) hg _).setNew (p := ⟨g, q * 7 + 2, none⟩) hg _).setNew (p := ⟨g, q * 7 + 3, none⟩) hg _).setNew (p := ⟨g, q * 7 + 4, none⟩) hg _).setNew (p := ⟨g, q * 7 + 5, none⟩) hg _).setNew (p := ⟨g, q * 7 + 6, none⟩) hg _
/-- the yard while its parts are laid: the row of parts, and how many leaves there are so far -/
structure Ly (base : Nat) (w : World) (y : Nat) (v : Value) (P : List (PtP × Bool)) (lv : Nat) (c2 c3 c4 : Value) : Prop where
  hd : Blk base w y [v, .int .i64 (lv : Int), c2, c3, c4]
  own : OwnL (Flat encPt okPt) 7 100 w base Nowhere P v
  ne : v.ownBlock ≠ some y
/-- what laying writes -/
def LyT (y : Nat) (v : Value) : Blocks := fun b => b = y ∨ v.ownBlock = some b
def LyN (v v' : Value) (n : Nat) : Prop := ∀ g, v'.ownBlock = some g → v.ownBlock = some g ∨ n ≤ g
section
variable {base : Nat} {w w' : World} {y : Nat} {v : Value} {P : List (PtP × Bool)} {lv : Nat} {c2 c3 c4 : Value}
theorem Ly.but {T : Blocks} (h : Ly base w y v P lv c2 c3 c4) (hb : But T w w') (hT : ∀ b, LyT y v b → ¬ T b) : Ly base w' y v P lv c2 c3 c4 :=
  ⟨h.hd.but hb (hT y (.inl rfl)), h.own.but hb (fun k hk => hT k (.inr hk)), h.ne⟩
theorem Ly.below (h : Ly base w y v P lv c2 c3 c4) (hb : Below w.heap.size w w') : Ly base w' y v P lv c2 c3 c4 := h.but (T := Nowhere) (But.of_below hb) (fun _ _ h => h)
/-- the row has grown by one, and lies in the yard's cell -/
theorem Ly.grown (h : Ly base w y v P lv c2 c3 c4) {wl w5 : World} (hl : Below w.heap.size w wl) {v5 : Value} (hg : wl.grownBy w5 v.ownBlock) {x : PtP × Bool} (ho : OwnL (Flat encPt okPt) 7 100 w5 base Nowhere (P ++ [x]) v5) (hd : v5.ownBlock = v.ownBlock ∨ ∃ g, v5.ownBlock = some g ∧ w.heap.size ≤ g) :
    Ly base (w5.setCell ⟨y, 0, none⟩ v5) y v5 (P ++ [x]) lv c2 c3 c4 ∧ LyN v v5 w.heap.size ∧ But (LyT y v) w (w5.setCell ⟨y, 0, none⟩ v5) := by
  have b1 : But (fun b => v.ownBlock = some b) w w5 := (But.of_below hl).trans (But.of_grown hg)
  have b2 : But (LyT y v) w (w5.setCell ⟨y, 0, none⟩ v5) := (b1.sub fun b h => .inr h).setCell (.inl rfl) v5
  have hy5 : v5.ownBlock ≠ some y := fun e => by
    rcases hd with e2 | ⟨g, e2, hg⟩
    · exact h.ne (e2 ▸ e)
    · rw [e2] at e; injection e with e; have := h.hd.lt; omega
  refine ⟨⟨(h.hd.but b1 h.ne).set (i := 0) (by simp) v5, ho.but ((But.refl (Is y) w5).setCell (p := ⟨y, 0, none⟩) rfl v5) (fun b e e2 => hy5 (by rw [show b = y from e2] at e; exact e)), hy5⟩, fun g hg => ?_, b2⟩
  rcases hd with e2 | ⟨g', e2, hg'⟩
  · exact .inl (e2 ▸ hg)
  · rw [e2] at hg; injection hg with hg; subst hg; exact .inr hg'
/-- one more leaf -/
theorem Ly.leaf (h : Ly base w y v P lv c2 c3 c4) : Ly base (w.setCell ⟨y, 1, none⟩ (.int .i64 ((lv : Int) + 1))) y v P (lv + 1) c2 c3 c4 :=
  ⟨h.hd.set (i := 1) (by simp) (.int .i64 ((lv : Int) + 1)), h.own.but ((But.refl (Is y) w).setCell (p := ⟨y, 1, none⟩) rfl _) (fun b e e2 => h.ne (by rw [show b = y from e2] at e; exact e)), h.ne⟩
/-- one of the row is laid anew -/
theorem Ly.set7 {g n cap : Nat} (h : Ly base w y (.slice (some ⟨g, 0, none⟩) n cap) P lv c2 c3 c4) {q : Nat} (hq : q < P.length) (x : PtP × Bool) : Ly base (seven w g q x) y (.slice (some ⟨g, 0, none⟩) n cap) (P.set q x) lv c2 c3 c4 :=
  ⟨h.hd.but ((But.refl (Is g) w).set7 (.inl rfl) q x) (fun e => h.ne (by rw [show y = g from e]; rfl)), h.own.set7 hq x, h.ne⟩
end
theorem Ly.row {base : Nat} {w : World} {y g n cap lv : Nat} {P : List (PtP × Bool)} {c2 c3 c4 : Value} (h : Ly base w y (.slice (some ⟨g, 0, none⟩) n cap) P lv c2 c3 c4) (hne : 0 < P.length) : RowAt encPt 7 base w g P := by
  obtain ⟨g', cap', e, r⟩ := h.own.rowAt hne
  injection e with e1
  injection e1 with e1
  injection e1 with e1
  subst e1; exact r
theorem LyN.refl (v : Value) (n : Nat) : LyN v v n := fun _ h => .inl h
theorem LyN.trans {v v1 v2 : Value} {n m : Nat} (h : LyN v v1 n) (h2 : LyN v1 v2 m) (hm : n ≤ m) : LyN v v2 n := fun g hg => by
  rcases h2 g hg with e | e
  · exact h g e
  · exact .inr (by omega)
/-- two in a row -/
theorem But.ly {y : Nat} {v v1 : Value} {a b c : World} (h : But (LyT y v) a b) (h2 : But (LyT y v1) b c) (hn : LyN v v1 a.heap.size) : But (LyT y v) a c :=
  h.on h2 fun x hx hu => by
    rcases hu with e | e
    · exact .inl e
    · rcases hn x e with e2 | e2
      · exact .inr e2
      · omega
end Go.Proofs.Ytbpooepbnnbipaa
