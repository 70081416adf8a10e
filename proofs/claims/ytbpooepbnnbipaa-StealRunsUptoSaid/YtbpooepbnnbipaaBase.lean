/- Words for memory that hold in every world: a slice that reads as a list, whatever its elements are; a row of the call's own that reads as a list. No function of the program stands here. -/
import Derived.Test.YtbpooepbnnbipaaRows
import Derived.WalkKit
import Derived.WalkSpells
import Derived.WalkLawsBesides
import Derived.Deep.Cut
import Derived.Deep.CutRange
import Derived.Deep.DeepCutAuto
import Derived.Deep.RegionHeld3
import Derived.Deep.RegionLaw
import Derived.Deep.QuietTactic
import Derived.BigQuiet
import Derived.Lib.Hide
import Derived.Maps.AppendAt
import Derived.Deep.AppendLies
import Derived.Deep.Draws
import Derived.Deep.Light
namespace Go.Proofs.Ytbpooepbnnbipaa
open Go.RowKit
set_option linter.unusedVariables false

theorem block_of_add (a : Addr) (n : Nat) : (a.add n).block = a.block := by unfold Addr.add; split <;> rfl
theorem add_of_add (a : Addr) (i j : Nat) : (a.add i).add j = a.add (i + j) := by
  unfold Addr.add
  by_cases hi : i = 0 <;> by_cases hj : j = 0 <;> simp [hi, hj, Nat.add_assoc]

def inI (k : Int) : Prop := -9223372036854775808 ≤ k ∧ k ≤ 9223372036854775807
instance (k : Int) : Decidable (inI k) := by unfold inI; infer_instance
theorem inI_wf {k : Int} (h : (Lit.int .i64 k).wf = true) : inI k := by
  simpa [Lit.wf, IntKind.min, IntKind.max, IntKind.signed, IntKind.bits, inI] using h
theorem wf_inI {k : Int} (h : inI k) : (Lit.int .i64 k).wf = true := by
  simpa [Lit.wf, IntKind.min, IntKind.max, IntKind.signed, IntKind.bits, inI] using h

/-- a set of blocks -/
abbrev Blocks := Nat → Prop
def Upto (n : Nat) : Blocks := fun b => b < n
def Plus (S : Blocks) (n m : Nat) : Blocks := fun b => S b ∨ (n ≤ b ∧ b < m)
def Sub (S S' : Blocks) : Prop := ∀ b, S b → S' b
/-- the cells of the blocks of S are in w' as in w -/
def Same (S : Blocks) (w w' : World) : Prop := ∀ p : Addr, S p.block → w'.cell? p = w.cell? p
theorem Sub.refl (S : Blocks) : Sub S S := fun _ h => h
theorem Sub.trans {S T U : Blocks} (h : Sub S T) (k : Sub T U) : Sub S U := fun b hb => k b (h b hb)
theorem Sub.upto {n m : Nat} (h : n ≤ m) : Sub (Upto n) (Upto m) := fun b hb => Nat.lt_of_lt_of_le hb h
theorem Sub.lift {S : Blocks} {n m : Nat} (h : Sub S (Upto n)) (hm : n ≤ m) : Sub S (Upto m) := h.trans (Sub.upto hm)
theorem Sub.plus (S : Blocks) (n m : Nat) : Sub S (Plus S n m) := fun _ h => .inl h
theorem Sub.plus_mono {S : Blocks} {n n' m m' : Nat} (h : n' ≤ n) (h' : m ≤ m') : Sub (Plus S n m) (Plus S n' m') := fun b hb => hb.imp id (fun h2 => ⟨by omega, by omega⟩)
theorem Sub.plus_upto {S : Blocks} {n m : Nat} (h : Sub S (Upto m)) : Sub (Plus S n m) (Upto m) := fun b hb => hb.elim (h b) (fun h2 => h2.2)
theorem Sub.plus_to {S : Blocks} {j n m k : Nat} (h : Sub S (Upto j)) (hj : j ≤ k) (hm : m ≤ k) : Sub (Plus S n m) (Upto k) := fun b hb => hb.elim (fun h1 => Nat.lt_of_lt_of_le (h b h1) hj) (fun h2 => Nat.lt_of_lt_of_le h2.2 hm)
/-- one set for two -/
def Both (S T : Blocks) : Blocks := fun b => S b ∨ T b
theorem Sub.both {S T U : Blocks} (h : Sub S U) (k : Sub T U) : Sub (Both S T) U := fun b hb => hb.elim (h b) (k b)
theorem Sub.left (S T : Blocks) : Sub S (Both S T) := fun _ h => .inl h
theorem Sub.right (S T : Blocks) : Sub T (Both S T) := fun _ h => .inr h
theorem not_both {S T : Blocks} {b : Nat} (h : ¬ S b) (k : ¬ T b) : ¬ Both S T b := fun hb => hb.elim h k
theorem not_sub {S : Blocks} {n b : Nat} (h : Sub S (Upto n)) (k : n ≤ b) : ¬ S b := fun hs => Nat.lt_irrefl _ (Nat.lt_of_lt_of_le (h _ hs) k)
theorem Sub.plus_le {S T : Blocks} {n m : Nat} (h : Sub S T) (h' : ∀ b, n ≤ b → b < m → T b) : Sub (Plus S n m) T := fun b hb => hb.elim (h b) (fun h2 => h' b h2.1 h2.2)
theorem Same.refl (S : Blocks) (w : World) : Same S w w := fun _ _ => rfl
theorem Same.trans {S : Blocks} {a b c : World} (h : Same S a b) (k : Same S b c) : Same S a c := fun p hp => (k p hp).trans (h p hp)
theorem Same.sub {S T : Blocks} {a b : World} (h : Same T a b) (hs : Sub S T) : Same S a b := fun p hp => h p (hs _ hp)
theorem same_of_below {B : Nat} {S : Blocks} {w w' : World} (h : Below B w w') (hS : Sub S (Upto B)) : Same S w w' := fun _ hp => h.cell (hS _ hp)
theorem same_setCell {S : Blocks} {w : World} {p : Addr} (h : ¬ S p.block) (u : Value) : Same S w (w.setCell p u) := fun q hq => World.cell?_setCell_other w p q u (fun e => by subst e; exact h hq)
theorem Same.setCell {S : Blocks} {a w : World} {p : Addr} (h : Same S a w) (hp : ¬ S p.block) (u : Value) : Same S a (w.setCell p u) := h.trans (same_setCell hp u)
theorem Same.alloc {S : Blocks} {a w : World} (h : Same S a w) (hS : Sub S (Upto w.heap.size)) (o : Obj) : Same S a (w.alloc o) := h.trans fun q hq => World.cell?_alloc_lt w o q (hS _ hq)
theorem Same.drew {S : Blocks} {a w : World} (h : Same S a w) : Same S a w.drew := h
theorem Same.via {S : Blocks} {a w1 w2 : World} {n : Nat} (hb : Below n w1 w2) (h : Same S a w1) (hS : Sub S (Upto n)) : Same S a w2 := h.trans (same_of_below hb hS)
theorem not_plus {S : Blocks} {n m k b : Nat} (hS : Sub S (Upto n)) (hb : n ≤ b) (h : b < k ∨ m ≤ b) : ¬ Plus S k m b := fun hp => hp.elim (fun hs => Nat.lt_irrefl _ (Nat.lt_of_lt_of_le (hS _ hs) hb)) (fun h2 => by omega)
theorem below_drewN {B : Nat} {a w : World} (h : Below B a w) (n : Nat) : Below B a (w.drewN n) := ⟨h.os, h.tape, h.output, h.size, h.block⟩

/-- the rows css of cells, each of `size` cells, lie from A on, in a block of S -/
def Arr (w : World) (S : Blocks) (size : Nat) (A : Option Addr) (css : List (List Value)) : Prop :=
  (∀ cs ∈ css, cs.length = size) ∧ (css ≠ [] → ∃ b off, A = some ⟨b, off, none⟩ ∧ S b ∧ ∀ (i : Nat) cs, css[i]? = some cs → ∀ (j : Nat) v, cs[j]? = some v → w.cell? ⟨b, off + (i * size + j), none⟩ = some v)
theorem Arr.keep {w w' : World} {S S' : Blocks} {size : Nat} {A : Option Addr} {css : List (List Value)} (h : Arr w S size A css) (hS : Sub S S') (hk : Same S w w') : Arr w' S' size A css :=
  ⟨h.1, fun hne => by
    obtain ⟨b, off, hA, hb, hcell⟩ := h.2 hne
    exact ⟨b, off, hA, hS _ hb, fun i cs hi j v hv => (hk ⟨b, off + (i * size + j), none⟩ hb).trans (hcell i cs hi j v hv)⟩⟩
theorem Arr.nil (w : World) (S : Blocks) (size : Nat) (A : Option Addr) : Arr w S size A [] := ⟨by simp, fun h => absurd rfl h⟩

/-- a reading of an element that lives on while the cells of its blocks do -/
def Keeps {α : Type} (rd : World → Blocks → α → List Value → Prop) : Prop := ∀ w w' S S' x cs, Sub S S' → Same S w w' → rd w S x cs → rd w' S' x cs

/-- the slice v reads as the list l, in blocks of S -/
def RdL {α : Type} (rd : World → Blocks → α → List Value → Prop) (size bytes : Nat) (w : World) (S : Blocks) (l : List α) (v : Value) : Prop :=
  ∃ (A : Option Addr) (cap : Nat) (css : List (List Value)), v = .slice A l.length cap ∧ l.length ≤ cap ∧ cap ≤ maxLen ∧ l.length * bytes ≤ 140737488355328 ∧ css.length = l.length ∧ Arr w S size A css ∧ ∀ (i : Nat) e cs, l[i]? = some e → css[i]? = some cs → rd w S e cs
section
variable {α : Type} {rd : World → Blocks → α → List Value → Prop} {size bytes : Nat} {w w' : World} {S S' : Blocks} {l : List α} {v : Value}
theorem RdL.keeps (hr : Keeps rd) : ∀ w w' S S' (l : List α) v, Sub S S' → Same S w w' → RdL rd size bytes w S l v → RdL rd size bytes w' S' l v := by
  intro w w' S S' l v hS hk h
  obtain ⟨A, cap, css, h1, h2, h3, h4, h5, h6, h7⟩ := h
  exact ⟨A, cap, css, h1, h2, h3, h4, h5, h6.keep hS hk, fun i e cs a b => hr _ _ _ _ _ _ hS hk (h7 i e cs a b)⟩
theorem RdL.keep (h : RdL rd size bytes w S l v) (hr : Keeps rd) (hS : Sub S S') (hk : Same S w w') : RdL rd size bytes w' S' l v := RdL.keeps hr _ _ _ _ _ _ hS hk h
/-- behind a call that left what was there: the blocks of S lie below the heap's end -/
theorem RdL.go {B : Nat} (h : RdL rd size bytes w S l v) (hr : Keeps rd) (hb : Below B w w') (hS : Sub S (Upto B)) (hT : Sub S S') : RdL rd size bytes w' S' l v := h.keep hr hT (same_of_below hb hS)
theorem RdL.sub (h : RdL rd size bytes w S l v) (hr : Keeps rd) (hS : Sub S S') : RdL rd size bytes w S' l v := h.keep hr hS (Same.refl _ _)
theorem RdL.nil {A : Option Addr} {cap : Nat} (hc : cap ≤ maxLen) : RdL rd size bytes w S [] (.slice A 0 cap) :=
  ⟨A, cap, [], rfl, Nat.zero_le _, hc, by simp, rfl, Arr.nil _ _ _ _, by simp⟩
theorem RdL.form (h : RdL rd size bytes w S l v) : ∃ A cap, v = .slice A l.length cap ∧ l.length ≤ cap ∧ cap ≤ maxLen ∧ l.length * bytes ≤ 140737488355328 := by
  obtain ⟨A, cap, css, h1, h2, h3, h4, _⟩ := h
  exact ⟨A, cap, h1, h2, h3, h4⟩
theorem RdL.at_ {A : Option Addr} {n cap : Nat} (h : RdL rd size bytes w S l (.slice A n cap)) {q : Nat} (hq : q < l.length) :
    ∃ b off cs, A = some ⟨b, off, none⟩ ∧ S b ∧ cs.length = size ∧ (∀ (j : Nat) v, cs[j]? = some v → w.cell? ⟨b, off + (q * size + j), none⟩ = some v) ∧ rd w S l[q] cs := by
  obtain ⟨A', cap', css, h1, h2, h3, h4, h5, h6, h7⟩ := h
  injection h1 with e1 e2 e3
  subst e1
  obtain ⟨b, off, hA, hb, hc⟩ := h6.2 (by intro h; subst h; simp at h5; omega)
  have hqc : css[q]? = some css[q] := List.getElem?_eq_getElem (by omega)
  exact ⟨b, off, css[q], hA, hb, h6.1 _ (List.getElem_mem _), hc q _ hqc, h7 q _ _ (List.getElem?_eq_getElem hq) hqc⟩
end

theorem RdL.stored {α : Type} {rd : World → Blocks → α → List Value → Prop} {size bytes : Nat} {w : World} {S : Blocks} {l : List α} {v : Value} (h : RdL rd size bytes w S l v) (hr : Keeps rd) {p : Addr} (hp : ¬ S p.block) (u : Value) : RdL rd size bytes (w.setCell p u) S l v :=
  h.keep hr (Sub.refl _) (same_setCell hp u)
theorem size_setCell (w : World) (p : Addr) (u : Value) : (w.setCell p u).heap.size = w.heap.size := by simp [World.setCell]

/-- v, of element type E, is a row of the call's own (from block base on) that reads as l, its elements in blocks of S but for the row's own -/
def OwnL {α : Type} (rd : World → Blocks → α → List Value → Prop) (size : Nat) (E : TypeId) (w : World) (base : Nat) (S : Blocks) (l : List α) (v : Value) : Prop :=
  ∃ (T : Blocks) (css : List (List Value)), Sub T S ∧ Sub T (Upto w.heap.size) ∧ (∀ k, v.ownBlock = some k → ¬ T k) ∧ css.length = l.length ∧ (∀ cs ∈ css, cs.length = size) ∧
    w.ownsRow base E size v l.length css.flatten ∧ ∀ (i : Nat) e cs, l[i]? = some e → css[i]? = some cs → rd w T e cs

theorem flatten_at {size : Nat} : ∀ {css : List (List Value)}, (∀ cs ∈ css, cs.length = size) → ∀ {i : Nat} {cs : List Value}, css[i]? = some cs → ∀ {j : Nat} {v : Value}, cs[j]? = some v → css.flatten[i * size + j]? = some v
  | [], _, i, cs, hi, _, _, _ => by simp at hi
  | c :: css, hs, 0, cs, hi, j, v, hv => by
    simp only [List.getElem?_cons_zero, Option.some.injEq] at hi
    subst hi
    have hj : j < c.length := (List.getElem?_eq_some_iff.1 hv).1
    simp only [List.flatten_cons, Nat.zero_mul, Nat.zero_add]
    rw [List.getElem?_append_left hj]
    exact hv
  | c :: css, hs, i + 1, cs, hi, j, v, hv => by
    simp only [List.getElem?_cons_succ] at hi
    have hc : c.length = size := hs c (by simp)
    have ih := flatten_at (fun cs h => hs cs (by simp [h])) hi hv
    simp only [List.flatten_cons]
    rw [List.getElem?_append_right (by rw [hc, Nat.succ_mul]; omega), hc]
    rw [← ih]
    congr 1
    rw [Nat.succ_mul]; omega

section
variable {α : Type} {rd : World → Blocks → α → List Value → Prop} {size bytes : Nat} {E : TypeId} {w w' : World} {base : Nat} {S S' : Blocks} {l : List α} {v : Value}
theorem OwnL.nil (w : World) (base : Nat) (S : Blocks) : OwnL rd size E w base S [] (.slice none 0 0) :=
  ⟨fun _ => False, [], fun _ h => h.elim, fun _ h => h.elim, fun _ _ h => h, rfl, by simp, World.ownsRow_nil _ _ _ _, by simp⟩
theorem OwnL.toRd (h : OwnL rd size E w base S l v) (hr : Keeps rd) (hb : l.length * bytes ≤ 140737488355328) (hS : Sub S S') (hB : ∀ b, base ≤ b → b < w.heap.size → S' b) : RdL rd size bytes w S' l v := by
  obtain ⟨T, css, t1, _, _, h1, h2, h3, h4⟩ := h
  rcases h3.2 with ⟨rfl, h0⟩ | ⟨g, cap, cur, rfl, hbg, hg, hn, hcap, hsz, htake⟩
  · have hl : l = [] := List.eq_nil_of_length_eq_zero h0
    subst hl
    exact RdL.nil (by simp [maxLen])
  · refine ⟨_, cap, css, rfl, hn, hcap, hb, h1, ⟨h2, fun _ => ⟨g, 0, rfl, hB g hbg (Array.getElem?_eq_some_iff.1 hg).1, fun i cs hi j v hv => ?_⟩⟩, fun i e cs a b => hr _ _ _ _ _ _ (t1.trans hS) (Same.refl _ _) (h4 i e cs a b)⟩
    have h := h3.cells (g := g) rfl (i * size + j) v (flatten_at h2 hi hv)
    have hadd : (⟨g, 0, none⟩ : Addr).add (i * size + j) = ⟨g, 0 + (i * size + j), none⟩ := by unfold Addr.add; split <;> simp_all
    rwa [hadd] at h
theorem OwnL.form (h : OwnL rd size E w base S l v) : ∃ A cap, v = .slice A l.length cap := by
  obtain ⟨T, css, _, _, _, h1, h2, h3, h4⟩ := h
  rcases h3.2 with ⟨rfl, h0⟩ | ⟨g, cap, cur, rfl, _⟩
  · exact ⟨none, 0, by rw [h0]⟩
  · exact ⟨_, cap, rfl⟩
theorem OwnL.sub (h : OwnL rd size E w base S l v) (hS : Sub S S') : OwnL rd size E w base S' l v := by
  obtain ⟨T, css, t1, r⟩ := h
  exact ⟨T, css, t1.trans hS, r⟩
/-- a world in which what was there is as it was, but for a row that is not this one, nor one of its elements' blocks -/
theorem OwnL.kept (h : OwnL rd size E w base S l v) (hr : Keeps rd) {row : Option Nat} (hb : w.grownBy w' row) (hv : v.ownBlock = none ∨ v.ownBlock ≠ row) (hS : ∀ k, row = some k → ¬ S k) : OwnL rd size E w' base S l v := by
  obtain ⟨T, css, t1, t2, t3, h1, h2, h3, h4⟩ := h
  refine ⟨T, css, t1, t2.lift hb.size, t3, h1, h2, h3.kept hb hv, fun i e cs a b => hr _ _ _ _ _ _ (Sub.refl _) (fun p hp => World.cell?_of_block (hb.block p.block (t2 _ hp) (fun e => hS _ e.symm (t1 _ hp)))) (h4 i e cs a b)⟩
/-- a world in which what was there when the row was last looked at is as it was -/
theorem OwnL.keep (h : OwnL rd size E w base S l v) (hr : Keeps rd) (hb : Below w.heap.size w w') : OwnL rd size E w' base S l v :=
  h.kept hr (row := none) ⟨hb.os, hb.tape, hb.output, hb.size, fun k hk _ => hb.block k hk⟩ (by cases v.ownBlock <;> simp) (by simp)
theorem OwnL.lt (h : OwnL rd size E w base S l v) : ∀ k, v.ownBlock = some k → base ≤ k ∧ k < w.heap.size := by
  obtain ⟨T, css, _, _, _, h1, h2, h3, h4⟩ := h
  exact h3.lt
end
section
variable {P : Program} {α : Type} {rd : World → Blocks → α → List Value → Prop} {size bytes : Nat} {E : TypeId} {w : World} {base : Nat} {S Tx : Blocks} {l : List α} {v : Value} {x : α} {cs : List Value}
/-- 'append(out, x)', x laid in a block of its own just before: the row reads as l ++ [x]; only the row's own block may have turned -/
theorem run_append_one (t ty : TypeId) (i : TypeInfo) (z : Value) (ht : P.underlying t = some (.slice E)) (hi : P.info? E = some i) (hz : i.zero = some z) (hsize : i.size = size) (hby : i.bytes = bytes) (hzs : z.cells.size = size) (hsz : 0 < size)
    (hr : Keeps rd) (hown : OwnL rd size E w base S l v) (hx : rd w Tx x cs) (hcs : cs.length = size) (t1 : Sub Tx S) (t2 : Sub Tx (Upto w.heap.size)) (t3 : ∀ k, v.ownBlock = some k → ¬ Tx k)
    (h1 : ∀ u ∈ cs, u.oneCell' = true) (h63 : l.length + 1 ≤ maxLen) (hbytes : (l.length + 1) * bytes ≤ 140737488355328) (hbase : base ≤ w.heap.size) :
    ∃ v' w', (Builtin.append_ #[t, t] ty #[v, .slice (some ⟨w.heap.size, 0, none⟩) 1 1]).run P (w.alloc (.cells cs.toArray E)) = .ok v' w' ∧ OwnL rd size E w' base S (l ++ [x]) v' ∧ w.grownBy w' v.ownBlock ∧
      (v'.ownBlock = v.ownBlock ∨ v'.ownBlock = some (w.heap.size + 1)) := by
  obtain ⟨T, css, s1, s2, s3, c1, c2, c3, c4⟩ := hown
  have hcells : ∀ j u, cs[j]? = some u → (w.alloc (.cells cs.toArray E)).cell? ((⟨w.heap.size, 0, none⟩ : Addr).add j) = some u := by
    intro j u hj
    have hadd : (⟨w.heap.size, 0, none⟩ : Addr).add j = ⟨w.heap.size, j, none⟩ := by unfold Addr.add; split <;> simp_all
    rw [hadd, cell_of_row _ _ j cs.toArray E (0, 0) (heap_alloc_new w _)]
    simpa using hj
  obtain ⟨v', w', hrun, h2, h3, _, h5⟩ := run_append_own_at (P := P) (w.alloc (.cells cs.toArray E)) base t ty E i z size bytes ht hi hz hsize hby hzs hsz v l.length css.flatten (c3.alloc _) ⟨w.heap.size, 0, none⟩ 1 1 cs (by simpa using hcs) hcells h1 h63 hbytes (by simp; omega)
  have hg : w.grownBy w' v.ownBlock := ⟨h3.os, h3.tape, h3.output, Nat.le_trans (by simp) h3.size, fun k hk hne => (h3.block k (by simp; omega) hne).trans (Below.heap_alloc w _ k hk)⟩
  have hsame : ∀ U : Blocks, Sub U (Upto w.heap.size) → (∀ k, v.ownBlock = some k → ¬ U k) → Same U w w' := fun U u2 u3 p hp => World.cell?_of_block (hg.block p.block (u2 _ hp) (fun e => u3 _ e.symm hp))
  refine ⟨v', w', hrun, ⟨fun b => T b ∨ Tx b, css ++ [cs], fun b hb => hb.elim (s1 b) (t1 b), fun b hb => hb.elim (s2.lift hg.size b) (t2.lift hg.size b), ?_, by simp [c1], fun c hc => (List.mem_append.1 hc).elim (c2 c) (fun h => by simp at h; subst h; exact hcs), by simpa using h2, ?_⟩, hg, by simpa using h5⟩
  · intro k hk hT
    rcases h5 with h5 | h5 <;> rw [h5] at hk
    · exact hT.elim (s3 k hk) (t3 k hk)
    · simp only [Option.some.injEq] at hk
      subst hk
      have h : (w.alloc (.cells cs.toArray E)).heap.size < w.heap.size := hT.elim (fun h => s2 _ h) (fun h => t2 _ h)
      have e : (w.alloc (.cells cs.toArray E)).heap.size = w.heap.size + 1 := by simp
      omega
  · intro j e c hj hc
    rcases Nat.lt_or_ge j l.length with hlt | hge
    · rw [List.getElem?_append_left hlt] at hj
      rw [List.getElem?_append_left (by omega)] at hc
      exact hr _ _ _ _ _ _ (fun b h => .inl h) (hsame T s2 s3) (c4 j e c hj hc)
    · have hil : j = l.length := by
        have := (List.getElem?_eq_some_iff.1 hj).1
        simp at this; omega
      subst hil
      rw [List.getElem?_append_right (Nat.le_refl _)] at hj
      rw [← c1, List.getElem?_append_right (Nat.le_refl _)] at hc
      simp at hj hc
      subst hj; subst hc
      exact hr _ _ _ _ _ _ (fun b h => .inr h) (hsame Tx t2 t3) hx

theorem wp_append_one {o : Oper} {a : Act} {K : Act → World → Prop} {Q : Exit → Act → World → Prop} (s y : Operand) (t : TypeId) (ho : o.op = .call { callee := .builtin .append, args := #[s, y], argTypes := #[t, t] })
    (i : TypeInfo) (z : Value) (ht : P.underlying t = some (.slice E)) (hi : P.info? E = some i) (hz : i.zero = some z) (hsize : i.size = size) (hby : i.bytes = bytes) (hzs : z.cells.size = size) (hsz : 0 < size)
    (hr : Keeps rd) (hown : OwnL rd size E w base S l v) (hx : rd w Tx x cs) (hs : a.eval s = v) (hy : a.eval y = .slice (some ⟨w.heap.size, 0, none⟩) 1 1) (hcs : cs.length = size) (t1 : Sub Tx S) (t2 : Sub Tx (Upto w.heap.size)) (t3 : ∀ k, v.ownBlock = some k → ¬ Tx k)
    (h1 : ∀ u ∈ cs, u.oneCell' = true) (h63 : l.length + 1 ≤ maxLen) (hbytes : (l.length + 1) * bytes ≤ 140737488355328) (hbase : base ≤ w.heap.size)
    (h : ∀ v' w', OwnL rd size E w' base S (l ++ [x]) v' → w.grownBy w' v.ownBlock → (v'.ownBlock = v.ownBlock ∨ v'.ownBlock = some (w.heap.size + 1)) → K (a.put o.dst v') w') : o.wp P a (w.alloc (.cells cs.toArray E)) K Q := by
  obtain ⟨v', w', hrun, h2, h3, h4⟩ := run_append_one (P := P) t o.type i z ht hi hz hsize hby hzs hsz hr hown hx hcs t1 t2 t3 h1 h63 hbytes hbase
  unfold Oper.wp execOp
  simp only [ho, resolve, invoke, builtin, Sem.run_bind, Sem.run_pure, Result.andThen_ok, List.map_toArray, List.map_cons, List.map_nil, hs, hy, hrun]
  exact h v' w' h2 h3 h4
theorem wpList_append_one {ops : Array Oper} {rest : List Oper} {o : Oper} {a : Act} {Q : Exit → Act → World → Prop} (hgd : o.guard = none) (s y : Operand) (t : TypeId) (ho : o.op = .call { callee := .builtin .append, args := #[s, y], argTypes := #[t, t] })
    (i : TypeInfo) (z : Value) (ht : P.underlying t = some (.slice E)) (hi : P.info? E = some i) (hz : i.zero = some z) (hsize : i.size = size) (hby : i.bytes = bytes) (hzs : z.cells.size = size) (hsz : 0 < size)
    (hr : Keeps rd) (hown : OwnL rd size E w base S l v) (hx : rd w Tx x cs) (hs : a.eval s = v) (hy : a.eval y = .slice (some ⟨w.heap.size, 0, none⟩) 1 1) (hcs : cs.length = size) (t1 : Sub Tx S) (t2 : Sub Tx (Upto w.heap.size)) (t3 : ∀ k, v.ownBlock = some k → ¬ Tx k)
    (h1 : ∀ u ∈ cs, u.oneCell' = true) (h63 : l.length + 1 ≤ maxLen) (hbytes : (l.length + 1) * bytes ≤ 140737488355328) (hbase : base ≤ w.heap.size)
    (h : ∀ v' w', OwnL rd size E w' base S (l ++ [x]) v' → w.grownBy w' v.ownBlock → (v'.ownBlock = v.ownBlock ∨ v'.ownBlock = some (w.heap.size + 1)) → wpList P ops Q rest (a.put o.dst v') w') : wpList P ops Q (o :: rest) a (w.alloc (.cells cs.toArray E)) :=
  wpList_plain hgd fun _ hK => wp_append_one s y t ho i z ht hi hz hsize hby hzs hsz hr hown hx hs hy hcs t1 t2 t3 h1 h63 hbytes hbase fun v' w' h2 h3 h4 => hK _ _ (h v' w' h2 h3 h4)
end

theorem flatten_get {size : Nat} : ∀ {css : List (List Value)}, (∀ cs ∈ css, cs.length = size) → ∀ {j : Nat} {u : Value}, css.flatten[j]? = some u → ∃ (i : Nat) (cs : List Value) (k : Nat), css[i]? = some cs ∧ cs[k]? = some u ∧ j = i * size + k
  | [], _, j, u, h => by simp at h
  | c :: css, hs, j, u, h => by
    have hc : c.length = size := hs c (by simp)
    simp only [List.flatten_cons] at h
    rcases Nat.lt_or_ge j c.length with hj | hj
    · rw [List.getElem?_append_left hj] at h
      exact ⟨0, c, j, rfl, h, by simp⟩
    · rw [List.getElem?_append_right hj] at h
      obtain ⟨i, cs, k, h1, h2, h3⟩ := flatten_get (fun cs h => hs cs (by simp [h])) h
      exact ⟨i + 1, cs, k, by simpa using h1, h2, by rw [Nat.succ_mul]; omega⟩

section
variable {P : Program} {α : Type} {rd : World → Blocks → α → List Value → Prop} {size bytes : Nat} {E : TypeId} {w : World} {base : Nat} {S Tx U : Blocks} {l m : List α} {v : Value} {A : Option Addr} {n c : Nat}
/-- what an append of the elements of css leaves, from what is known of the two rows -/
theorem OwnL.cat {w' : World} {v' : Value} {T : Blocks} {css css' : List (List Value)} (hr : Keeps rd) (s1 : Sub T S) (s2 : Sub T (Upto w.heap.size)) (s3 : ∀ k, v.ownBlock = some k → ¬ T k) (c1 : css.length = l.length) (c2 : ∀ cs ∈ css, cs.length = size)
    (c4 : ∀ (i : Nat) e cs, l[i]? = some e → css[i]? = some cs → rd w T e cs) (d1 : css'.length = m.length) (d2 : ∀ cs ∈ css', cs.length = size) (d4 : ∀ (i : Nat) e cs, m[i]? = some e → css'[i]? = some cs → rd w Tx e cs)
    (t1 : Sub Tx S) (t2 : Sub Tx (Upto w.heap.size)) (t3 : ∀ k, v.ownBlock = some k → ¬ Tx k) (hg : w.grownBy w' v.ownBlock) (h5 : v'.ownBlock = v.ownBlock ∨ ∃ k, v'.ownBlock = some k ∧ w.heap.size ≤ k)
    (h2 : w'.ownsRow base E size v' (l.length + m.length) (css.flatten ++ css'.flatten)) : OwnL rd size E w' base S (l ++ m) v' := by
  have hsame : ∀ V : Blocks, Sub V (Upto w.heap.size) → (∀ k, v.ownBlock = some k → ¬ V k) → Same V w w' := fun V u2 u3 p hp => World.cell?_of_block (hg.block p.block (u2 _ hp) (fun e => u3 _ e.symm hp))
  refine ⟨fun b => T b ∨ Tx b, css ++ css', fun b hb => hb.elim (s1 b) (t1 b), fun b hb => hb.elim (s2.lift hg.size b) (t2.lift hg.size b), ?_, by simp [c1, d1], fun c hc => (List.mem_append.1 hc).elim (c2 c) (d2 c), by simpa using h2, ?_⟩
  · intro k hk hT
    rcases h5 with h5 | ⟨k', h5, hk'⟩ <;> rw [h5] at hk
    · exact hT.elim (s3 k hk) (t3 k hk)
    · simp only [Option.some.injEq] at hk
      subst hk
      have h : k' < w.heap.size := hT.elim (fun h => s2 _ h) (fun h => t2 _ h)
      omega
  · intro j e c hj hc
    rcases Nat.lt_or_ge j l.length with hlt | hge
    · rw [List.getElem?_append_left hlt] at hj
      rw [List.getElem?_append_left (by omega)] at hc
      exact hr _ _ _ _ _ _ (fun b h => .inl h) (hsame T s2 s3) (c4 j e c hj hc)
    · rw [List.getElem?_append_right hge] at hj
      rw [List.getElem?_append_right (by omega), c1] at hc
      exact hr _ _ _ _ _ _ (fun b h => .inr h) (hsame Tx t2 t3) (d4 _ e c hj hc)

/-- 'append(out, xs...)': xs reads as m -/
theorem run_append_list (t ty : TypeId) (i : TypeInfo) (z : Value) (ht : P.underlying t = some (.slice E)) (hi : P.info? E = some i) (hz : i.zero = some z) (hsize : i.size = size) (hby : i.bytes = bytes) (hzs : z.cells.size = size) (hsz : 0 < size)
    (hr : Keeps rd) (hown : OwnL rd size E w base S l v) (hx : RdL (fun w' _ e cs => rd w' Tx e cs) size bytes w U m (.slice A n c)) (t1 : Sub Tx S) (t2 : Sub Tx (Upto w.heap.size)) (t3 : ∀ k, v.ownBlock = some k → ¬ Tx k)
    (h1 : ∀ e cs, rd w Tx e cs → ∀ u ∈ cs, u.oneCell' = true) (h63 : l.length + m.length ≤ maxLen) (hbytes : (l.length + m.length) * bytes ≤ 140737488355328) (hbase : base ≤ w.heap.size) :
    ∃ v' w', (Builtin.append_ #[t, t] ty #[v, .slice A n c]).run P w = .ok v' w' ∧ OwnL rd size E w' base S (l ++ m) v' ∧ w.grownBy w' v.ownBlock ∧ (v'.ownBlock = v.ownBlock ∨ v'.ownBlock = some w.heap.size) := by
  obtain ⟨T, css, s1, s2, s3, c1, c2, c3, c4⟩ := hown
  obtain ⟨A', cap, css', hv, hl, hcm, hb, d1, d3, d4⟩ := hx
  injection hv with e1 e2 e3
  subst e1 e2 e3
  rcases A with _ | ad
  · have hm : m = [] := by
      rcases Nat.eq_zero_or_pos m.length with h | h
      · exact List.eq_nil_of_length_eq_zero h
      · obtain ⟨b, off, h1, _⟩ := d3.2 (by intro h2; subst h2; simp at d1; omega)
        cases h1
    subst hm
    have hrun : (Builtin.append_ #[t, t] ty #[v, .slice none 0 c]).run P w = .ok v w := by
      rcases c3.2 with ⟨rfl, _⟩ | ⟨g, cap, cur, rfl, _, _, hnc, _⟩
      · simp [Builtin.append_, run_underlying ht, sizeOf, typeInfo, hi, Builtin.lenOf, Builtin.firstCells]
      · simp [Builtin.append_, run_underlying ht, sizeOf, typeInfo, hi, Builtin.lenOf, Builtin.firstCells, hnc, storeCells]
    exact ⟨v, w, hrun, by rw [List.append_nil]; exact ⟨T, css, s1, s2, s3, c1, c2, c3, c4⟩, World.grownBy.refl w _, .inl rfl⟩
  · have hfl : css'.flatten.length = m.length * size := by
      rw [← d1]
      clear d4 hb d1 hl h63 hbytes
      have := d3.1
      clear d3
      induction css' with
      | nil => simp
      | cons x r ih =>
        simp only [List.flatten_cons, List.length_append, List.length_cons, Nat.succ_mul]
        rw [ih (fun cs h => this cs (by simp [h])), this x (by simp)]
        omega
    have hcells : ∀ j u, css'.flatten[j]? = some u → w.cell? (ad.add j) = some u := by
      intro j u hj
      obtain ⟨i', cs, k, a1, a2, rfl⟩ := flatten_get d3.1 hj
      obtain ⟨b, off, hA, _, hcell⟩ := d3.2 (by intro h; subst h; simp at a1)
      injection hA with hA
      subst hA
      have hadd : (⟨b, off, none⟩ : Addr).add (i' * size + k) = ⟨b, off + (i' * size + k), none⟩ := by unfold Addr.add; split <;> simp_all
      rw [hadd]
      exact hcell i' cs a1 k u a2
    have hone : ∀ u ∈ css'.flatten, u.oneCell' = true := by
      intro u hu
      obtain ⟨cs, hcs, huc⟩ := List.mem_flatten.1 hu
      obtain ⟨q, hq, rfl⟩ := List.getElem_of_mem hcs
      exact h1 _ _ (d4 q _ _ (List.getElem?_eq_getElem (by omega)) (List.getElem?_eq_getElem hq)) u huc
    obtain ⟨v', w', hrun, h2, h3, _, h5⟩ := run_append_own_at (P := P) w base t ty E i z size bytes ht hi hz hsize hby hzs hsz v l.length css.flatten c3 ad m.length c css'.flatten hfl hcells hone h63 hbytes hbase
    exact ⟨v', w', hrun, OwnL.cat hr s1 s2 s3 c1 c2 c4 d1 d3.1 d4 t1 t2 t3 h3 (h5.imp id (fun h => ⟨_, h, Nat.le_refl _⟩)) h2, h3, h5⟩
theorem wp_append_list {o : Oper} {a : Act} {K : Act → World → Prop} {Q : Exit → Act → World → Prop} (s y : Operand) (t : TypeId) (ho : o.op = .call { callee := .builtin .append, args := #[s, y], argTypes := #[t, t] })
    (i : TypeInfo) (z : Value) (ht : P.underlying t = some (.slice E)) (hi : P.info? E = some i) (hz : i.zero = some z) (hsize : i.size = size) (hby : i.bytes = bytes) (hzs : z.cells.size = size) (hsz : 0 < size)
    (hr : Keeps rd) (hown : OwnL rd size E w base S l v) (hx : RdL (fun w' _ e cs => rd w' Tx e cs) size bytes w U m (.slice A n c)) (hs : a.eval s = v) (hy : a.eval y = .slice A n c) (t1 : Sub Tx S) (t2 : Sub Tx (Upto w.heap.size)) (t3 : ∀ k, v.ownBlock = some k → ¬ Tx k)
    (h1 : ∀ e cs, rd w Tx e cs → ∀ u ∈ cs, u.oneCell' = true) (h63 : l.length + m.length ≤ maxLen) (hbytes : (l.length + m.length) * bytes ≤ 140737488355328) (hbase : base ≤ w.heap.size)
    (h : ∀ v' w', OwnL rd size E w' base S (l ++ m) v' → w.grownBy w' v.ownBlock → (v'.ownBlock = v.ownBlock ∨ v'.ownBlock = some w.heap.size) → K (a.put o.dst v') w') : o.wp P a w K Q := by
  obtain ⟨v', w', hrun, h2, h3, h4⟩ := run_append_list (P := P) t o.type i z ht hi hz hsize hby hzs hsz hr hown hx t1 t2 t3 h1 h63 hbytes hbase
  unfold Oper.wp execOp
  simp only [ho, resolve, invoke, builtin, Sem.run_bind, Sem.run_pure, Result.andThen_ok, List.map_toArray, List.map_cons, List.map_nil, hs, hy, hrun]
  exact h v' w' h2 h3 h4
theorem wpList_append_list {ops : Array Oper} {rest : List Oper} {o : Oper} {a : Act} {Q : Exit → Act → World → Prop} (hgd : o.guard = none) (s y : Operand) (t : TypeId) (ho : o.op = .call { callee := .builtin .append, args := #[s, y], argTypes := #[t, t] })
    (i : TypeInfo) (z : Value) (ht : P.underlying t = some (.slice E)) (hi : P.info? E = some i) (hz : i.zero = some z) (hsize : i.size = size) (hby : i.bytes = bytes) (hzs : z.cells.size = size) (hsz : 0 < size)
    (hr : Keeps rd) (hown : OwnL rd size E w base S l v) (hx : RdL (fun w' _ e cs => rd w' Tx e cs) size bytes w U m (.slice A n c)) (hs : a.eval s = v) (hy : a.eval y = .slice A n c) (t1 : Sub Tx S) (t2 : Sub Tx (Upto w.heap.size)) (t3 : ∀ k, v.ownBlock = some k → ¬ Tx k)
    (h1 : ∀ e cs, rd w Tx e cs → ∀ u ∈ cs, u.oneCell' = true) (h63 : l.length + m.length ≤ maxLen) (hbytes : (l.length + m.length) * bytes ≤ 140737488355328) (hbase : base ≤ w.heap.size)
    (h : ∀ v' w', OwnL rd size E w' base S (l ++ m) v' → w.grownBy w' v.ownBlock → (v'.ownBlock = v.ownBlock ∨ v'.ownBlock = some w.heap.size) → wpList P ops Q rest (a.put o.dst v') w') : wpList P ops Q (o :: rest) a w :=
  wpList_plain hgd fun _ hK => wp_append_list s y t ho i z ht hi hz hsize hby hzs hsz hr hown hx hs hy t1 t2 t3 h1 h63 hbytes hbase fun v' w' h2 h3 h4 => hK _ _ (h v' w' h2 h3 h4)
/-- an empty row that was just made -/
theorem OwnL.empty {base : Nat} (w : World) (hb : base ≤ w.heap.size) : OwnL rd size E (w.alloc (.cells #[] E)) base S [] (.slice (some ⟨w.heap.size, 0, none⟩) 0 0) :=
  ⟨fun _ => False, [], fun _ h => h.elim, fun _ h => h.elim, fun _ _ h => h, rfl, by simp, World.ownsRow_made w #[] 0 hb (by simp [maxLen]) (by simp), by simp⟩
end

theorem frozen_drew (w : World) (p : Addr) : w.drew.frozen? p = w.frozen? p := rfl
/-- what was there in w0 is as it was -/
structure Kept (w0 w' : World) : Prop where
  below : Below w0.heap.size w0 w'
/-- the same, with two rules that the walk uses: the condition under which a region's loads are taken first -/
abbrev Stay (w0 w' : World) : Prop := (∀ p : Addr, p.block < w0.heap.size → w'.cell? p = w0.cell? p) ∧ (∀ p : Addr, p.block < w0.heap.size → w'.frozen? p = w0.frozen? p) ∧ Kept w0 w'
theorem Stay.mk {w0 w' : World} (h : Kept w0 w') : Stay w0 w' := ⟨fun _ hp => h.below.cell hp, fun _ hp => h.below.frozen hp, h⟩
theorem Stay.of {w0 w' : World} (h : Below w0.heap.size w0 w') : Stay w0 w' := Stay.mk ⟨h⟩
theorem Stay.below {w0 w' : World} (h : Stay w0 w') : Below w0.heap.size w0 w' := h.2.2.below
theorem Stay.size {w0 w' : World} (h : Stay w0 w') : w0.heap.size ≤ w'.heap.size := h.2.2.below.size
theorem Stay.same {w0 w' : World} (h : Stay w0 w') : Same (Upto w0.heap.size) w0 w' := h.1
theorem Stay.step {w0 w1 w2 : World} (hb : Below w1.heap.size w1 w2) (h : Stay w0 w1) : Stay w0 w2 := Stay.of (h.below.trans (hb.mono h.size))
theorem Kept.here {w0 w' : World} (h : Stay w0 w') : Kept w0 w' := h.2.2
theorem Kept.refl (w0 : World) : Kept w0 w0 := ⟨Below.refl _ _⟩
theorem Kept.start (w0 : World) : Kept w0 w0.drew := ⟨(Below.refl _ _).drew⟩
theorem Kept.drew {w0 w1 : World} (h : Kept w0 w1) : Kept w0 w1.drew := ⟨h.below.drew⟩
theorem Kept.next {w0 w1 w2 : World} (hb : Below w1.heap.size w1 w2) (h : Stay w0 w1) : Kept w0 w2 := ⟨(h.step hb).below⟩
theorem Kept.alloc {w0 w1 : World} (h : Kept w0 w1) (o : Obj) : Kept w0 (w1.alloc o) := ⟨h.below.alloc h.below.size o⟩
theorem Kept.realloc {w0 w1 : World} {o : Obj} (h : Stay w0 (w1.alloc o)) (hs : w0.heap.size ≤ w1.heap.size) (o' : Obj) : Kept w0 (w1.alloc o') :=
  ⟨⟨h.below.os, h.below.tape, h.below.output, Nat.le_trans hs (by simp), fun k hk => (Below.heap_alloc w1 o' k (by omega)).trans ((Below.heap_alloc w1 o k (by omega)).symm.trans (h.below.block k hk))⟩⟩
theorem Kept.set {w0 w1 : World} {b off : Nat} {sp : Option Nat} (h : Kept w0 w1) (hp : w0.heap.size ≤ b) (u : Value) : Kept w0 (w1.setCell ⟨b, off, sp⟩ u) := ⟨h.below.setCell hp u⟩

/-- the world at hand, known by F alone from here on -/
theorem forget {P : Program} {c : Code} {Q : Exit → Act → World → Prop} {a : Act} {w : World} (F : World → Prop) (h : F w) (k : ∀ w0, F w0 → c.wp P Q a w0) : c.wp P Q a w := k w h
end Go.Proofs.Ytbpooepbnnbipaa
