/- Worlds that differ in a few old blocks only. -/
import Derived.Test.YtbpooepbnnbipaaFlat
namespace Go.Proofs.Ytbpooepbnnbipaa
open Go.RowKit
set_option linter.unusedVariables false
/-- all that was there is as it was, but for the blocks of T -/
structure But (T : Blocks) (w w' : World) : Prop where
  os : w'.os = w.os
  tape : w'.tape = w.tape
  output : w'.output = w.output
  size : w.heap.size ≤ w'.heap.size
  block : ∀ k, k < w.heap.size → ¬ T k → w'.heap[k]? = w.heap[k]?
def Is (b : Nat) : Blocks := fun k => k = b
def Is2 (b c : Nat) : Blocks := fun k => k = b ∨ k = c
theorem But.refl (T : Blocks) (w : World) : But T w w := ⟨rfl, rfl, rfl, Nat.le_refl _, fun _ _ _ => rfl⟩
theorem But.trans {T : Blocks} {a b c : World} (h : But T a b) (k : But T b c) : But T a c :=
  ⟨k.os.trans h.os, k.tape.trans h.tape, k.output.trans h.output, Nat.le_trans h.size k.size, fun i hi ht => (k.block i (Nat.lt_of_lt_of_le hi h.size) ht).trans (h.block i hi ht)⟩
theorem But.sub {T U : Blocks} {a b : World} (h : But T a b) (hs : Sub T U) : But U a b := ⟨h.os, h.tape, h.output, h.size, fun k hk ht => h.block k hk (fun e => ht (hs _ e))⟩
theorem But.drewN {T : Blocks} {a b : World} (h : But T a b) (n : Nat) : But T a (b.drewN n) := ⟨h.os, h.tape, h.output, h.size, h.block⟩
theorem But.drew {T : Blocks} {a b : World} (h : But T a b) : But T a b.drew := ⟨h.os, h.tape, h.output, h.size, h.block⟩
theorem But.of_below {T : Blocks} {a b : World} (h : Below a.heap.size a b) : But T a b := ⟨h.os, h.tape, h.output, h.size, fun k hk _ => h.block k hk⟩
theorem But.alloc {T : Blocks} {a b : World} (h : But T a b) (o : Obj) : But T a (b.alloc o) := h.trans (.of_below ((Below.refl _ _).alloc (Nat.le_refl _) _))
theorem But.setCell {T : Blocks} {a b : World} (h : But T a b) {p : Addr} (hp : T p.block) (u : Value) : But T a (b.setCell p u) :=
  h.trans ⟨rfl, rfl, rfl, by simp [World.setCell], fun k hk ht => by
    have hne : p.block ≠ k := fun e => ht (e ▸ hp)
    simp [World.setCell, Array.getElem?_modify, hne]⟩
theorem But.setNew {T : Blocks} {a b : World} (h : But T a b) {p : Addr} (hp : T p.block ∨ a.heap.size ≤ p.block) (u : Value) : But T a (b.setCell p u) :=
  ⟨h.os, h.tape, h.output, by rw [size_setCell]; exact h.size, fun k hk ht => by
    have hne : p.block ≠ k := fun e => hp.elim (fun h => ht (e ▸ h)) (fun h => by omega)
    have h2 : (b.setCell p u).heap[k]? = b.heap[k]? := by simp [World.setCell, Array.getElem?_modify, hne]
    exact h2.trans (h.block k hk ht)⟩
/-- blocks of T that are all younger than B -/
theorem But.below {T : Blocks} {B : Nat} {a b : World} (h : But T a b) (hB : B ≤ a.heap.size) (hT : ∀ k, T k → B ≤ k) : Below B a b :=
  ⟨h.os, h.tape, h.output, h.size, fun k hk => h.block k (by omega) (fun e => by have := hT k e; omega)⟩
theorem But.cell {T : Blocks} {w w' : World} (h : But T w w') {p : Addr} {v : Value} (hT : ¬ T p.block) (hc : w.cell? p = some v) : w'.cell? p = some v := by
  have hlt : p.block < w.heap.size := World.block_lt_of_cell? w _ hc
  rw [World.cell?_of_block (h.block _ hlt hT)]; exact hc
theorem But.same {T S : Blocks} {w w' : World} (h : But T w w') (hS : Sub S (Upto w.heap.size)) (hT : ∀ k, S k → ¬ T k) : Same S w w' :=
  fun p hp => World.cell?_of_block (h.block _ (hS _ hp) (hT _ hp))
theorem frozen_of_block {w w' : World} {b o : Nat} {sp : Option Nat} (h : w'.heap[b]? = w.heap[b]?) : w'.frozen? ⟨b, o, sp⟩ = w.frozen? ⟨b, o, sp⟩ := by
  simp only [World.frozen?, h]
/-- a flat row of the call's own, while others' blocks turn -/
theorem OwnL.but {α : Type} {enc : α → List Value} {ok : α → Prop} {size : Nat} {E : TypeId} {w w' : World} {base : Nat} {S T : Blocks} {l : List α} {v : Value} (h : OwnL (Flat enc ok) size E w base S l v) (hb : But T w w') (hT : ∀ k, v.ownBlock = some k → ¬ T k) : OwnL (Flat enc ok) size E w' base S l v := by
  obtain ⟨U, css, t1, t2, t3, h1, h2, h3, h4⟩ := h
  refine ⟨U, css, t1, t2.lift hb.size, t3, h1, h2, ?_, h4⟩
  obtain ⟨e, h3⟩ := h3
  refine ⟨e, ?_⟩
  rcases h3 with h3 | ⟨g, cap, cur, rfl, hbg, hg, hn, hcap, hsz, htake⟩
  · exact .inl h3
  · refine .inr ⟨g, cap, cur, rfl, hbg, ?_, hn, hcap, hsz, htake⟩
    rw [hb.block g (Array.getElem?_eq_some_iff.1 hg).1 (hT g rfl)]; exact hg
theorem But.of_grown {w w' : World} {row : Option Nat} (h : w.grownBy w' row) : But (fun k => row = some k) w w' :=
  ⟨h.os, h.tape, h.output, h.size, fun k hk ht => h.block k hk (fun e => ht e.symm)⟩
end Go.Proofs.Ytbpooepbnnbipaa
