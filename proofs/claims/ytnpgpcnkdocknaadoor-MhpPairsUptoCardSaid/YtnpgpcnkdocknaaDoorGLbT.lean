/- Texts merged: LbOne, LbT. -/
import Derived.Test.YtnpgpcnkdocknaaDoorSc9
import Derived.Test.YtnpgpcnkdocknaaDoorGScW
import Derived.Test.YtnpgpcnkdocknaaDoorGGrSpec
namespace Go.Proofs.YtnpgpcnkdocknaaDoor
open Go.RowKit
set_option linter.unusedVariables false
/-- a list of one statement, laid in a block of its own -/
theorem rdSt_one {w : World} {S : Blocks} {g : Nat} {st : St} {cs : List Value} (h : RdSt w S st cs) (hl : cs.length = 12) (hc : ∀ (j : Nat) v, cs[j]? = some v → w.cell? ⟨g, j, none⟩ = some v) (hg : S g) : RdSts w S [st] (.slice (some ⟨g, 0, none⟩) 1 1) :=
  ⟨_, 1, [cs], rfl, Nat.le_refl _, by simp [maxLen], by simp, rfl, ⟨by simpa using hl, fun _ => ⟨g, 0, rfl, hg, fun i c hi j v hv => by
    match i, hi with
    | 0, hi => simp at hi; subst hi; simpa using hc j v hv⟩⟩, fun i e c hi hc => by
    match i, hi, hc with
    | 0, hi, hc => simp at hi hc; subst hi hc; exact h⟩
/-- the labels of one statement, laid in a block of its own -/
theorem labelsOf_one {w wr : World} {S : Blocks} {g : Nat} {st : St} {cs : List Value} (h : RdSt wr S st cs) (hk : Same S wr w) (hS : Sub S (Upto w.heap.size)) (hl : cs.length = 12) (hw : St.wts [st] ≤ 1048576) (hg : w.heap.size = g) :
    Calls Tryd.prog 11 #[.slice (some ⟨g, 0, none⟩) 1 1] (w.alloc (.cells cs.toArray 39)) fun e w' => e = .returned (.int .i64 (labelsL [st] : Int)) ∧ Below w.heap.size w w' := by
  subst hg
  have hb : Below w.heap.size w (w.alloc (.cells cs.toArray 39)) := (Below.refl _ _).alloc (Nat.le_refl _) _
  have h2 : RdSt (w.alloc (.cells cs.toArray 39)) (Both S (Is w.heap.size)) st cs := RdSt.keeps _ _ _ _ _ _ (Sub.left _ _) (hk.trans (same_of_below hb hS)) h
  have B := Blk.made w cs 39 (base := 0) (Nat.zero_le _)
  have hs : Sub (Both S (Is w.heap.size)) (Upto (w.alloc (.cells cs.toArray 39)).heap.size) := Sub.both (hS.trans (Sub.upto hb.size)) (fun k hk => by have e : k = w.heap.size := hk; simp only [Upto, World.size_alloc]; omega)
  refine ((labs_all _ [st] (Nat.le_refl _)).1 _ (Both S (Is w.heap.size)) _ hs (rdSt_one h2 hl B.cell (.inr rfl)) hw).mono ?_
  rintro e w' ⟨rfl, h⟩
  exact ⟨rfl, hb.trans (h.mono hb.size)⟩
/-- the labels of one statement, laid in a block of its own, by the reference -/
theorem llabelsOf_one {w wr : World} {S : Blocks} {g : Nat} {st : St} {cs : List Value} (h : RdSt wr S st cs) (hk : Same S wr w) (hS : Sub S (Upto w.heap.size)) (hl : cs.length = 12) (hw : St.wts [st] ≤ 1048576) (hg : w.heap.size = g) :
    Calls Tryd.prog 4 #[.slice (some ⟨g, 0, none⟩) 1 1] (w.alloc (.cells cs.toArray 39)) fun e w' => e = .returned (.int .i64 (labelsL [st] : Int)) ∧ Below w.heap.size w w' := by
  subst hg
  have hb : Below w.heap.size w (w.alloc (.cells cs.toArray 39)) := (Below.refl _ _).alloc (Nat.le_refl _) _
  have h2 : RdSt (w.alloc (.cells cs.toArray 39)) (Both S (Is w.heap.size)) st cs := RdSt.keeps _ _ _ _ _ _ (Sub.left _ _) (hk.trans (same_of_below hb hS)) h
  have B := Blk.made w cs 39 (base := 0) (Nat.zero_le _)
  have hs : Sub (Both S (Is w.heap.size)) (Upto (w.alloc (.cells cs.toArray 39)).heap.size) := Sub.both (hS.trans (Sub.upto hb.size)) (fun k hk => by have e : k = w.heap.size := hk; simp only [Upto, World.size_alloc]; omega)
  refine ((labs_all _ [st] (Nat.le_refl _)).2 _ (Both S (Is w.heap.size)) _ hs (rdSt_one h2 hl B.cell (.inr rfl)) hw).mono ?_
  rintro e w' ⟨rfl, h⟩
  exact ⟨rfl, hb.trans (h.mono hb.size)⟩
end Go.Proofs.YtnpgpcnkdocknaaDoor
namespace Go.Proofs.YtnpgpcnkdocknaaDoor
set_option linter.unusedVariables false
theorem labels_take (l : List St) : ∀ q, labelsL (l.take q) ≤ labelsL l := by
  induction l with
  | nil => intro q; simp
  | cons s r ih =>
    intro q
    cases q with
    | zero => rw [List.take_zero, labelsL]; exact Nat.zero_le _
    | succ q => rw [List.take_succ_cons, labelsL, labelsL]; have := ih q; omega
theorem labelsL_app (a b : List St) : labelsL (a ++ b) = labelsL a + labelsL b := by
  induction a with
  | nil => simp [labelsL]
  | cons s r ih => rw [List.cons_append, labelsL, labelsL, ih]; omega
theorem wts_drop (l : List St) (k : Nat) : St.wts (l.drop k) ≤ St.wts l := by
  have h := wts_app (l.take k) (l.drop k)
  rw [List.take_append_drop] at h
  omega
end Go.Proofs.YtnpgpcnkdocknaaDoor
