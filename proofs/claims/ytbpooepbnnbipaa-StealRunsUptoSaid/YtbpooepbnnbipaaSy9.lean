/- The yard while its workers come. -/
import Derived.Test.YtbpooepbnnbipaaSy5
import Derived.Test.YtbpooepbnnbipaaSy8
namespace Go.Proofs.Ytbpooepbnnbipaa
open Go.RowKit
set_option linter.unusedVariables false
def okAny {α : Type} (x : α) : Prop := True
theorem recol (col : Nat → Nat) (v : Value) (c : Nat) : ∃ col' : Nat → Nat, (∀ b, v.ownBlock = some b → col' b = c) ∧ ∀ b, v.ownBlock ≠ some b → col' b = col b := by
  classical
  exact ⟨fun b => if v.ownBlock = some b then c else col b, fun b h => if_pos h, fun b h => if_neg h⟩
/-- so many workers' places, so many queues -/
structure Gd (base : Nat) (w : World) (y : Nat) (col : Nat → Nat) (va vq : Value) (qa : Nat) (ds : List Nat) : Prop where
  hd : Blk base w y [.slice none 0 0, .int .i64 0, va, vq, .slice none 0 0]
  oa : OwnL (Flat encN1 okAny) 1 3 w base Nowhere (List.replicate qa (-1 : Int)) va
  oq : OwnL (Flat encPtr okAny) 1 57 w base Nowhere ds vq
  dq : ∀ i d, ds[i]? = some d → Blk base w d [.slice none 0 0, .int .i64 0, .int .i64 0] ∧ col d = 6 + i
  cy : col y = 0
  ca : ∀ b, va.ownBlock = some b → col b = 2
  cq : ∀ b, vq.ownBlock = some b → col b = 3
  lo : ∀ b, b < base → col b = 4
section
variable {base : Nat} {w w' : World} {y : Nat} {col : Nat → Nat} {va vq : Value} {qa : Nat} {ds : List Nat}
theorem Gd.below (h : Gd base w y col va vq qa ds) (hb : Below w.heap.size w w') : Gd base w' y col va vq qa ds :=
  ⟨h.hd.below hb, h.oa.but (But.of_below (T := Nowhere) hb) (fun _ _ h => h), h.oq.but (But.of_below (T := Nowhere) hb) (fun _ _ h => h), fun i d hd => ⟨(h.dq i d hd).1.below hb, (h.dq i d hd).2⟩, h.cy, h.ca, h.cq, h.lo⟩
/-- one more place -/
theorem Gd.place (h : Gd base w y col va vq qa ds) {wl w5 : World} (hl : Below w.heap.size w wl) {v5 : Value} (hg : wl.grownBy w5 va.ownBlock) (ho : OwnL (Flat encN1 okAny) 1 3 w5 base Nowhere (List.replicate (qa + 1) (-1 : Int)) v5) (hd : v5.ownBlock = va.ownBlock ∨ ∃ g, v5.ownBlock = some g ∧ w.heap.size ≤ g) :
    ∃ col', Gd base (w5.setCell ⟨y, 2, none⟩ v5) y col' v5 vq (qa + 1) ds := by
  have b1 : But (fun b => va.ownBlock = some b) w w5 := (But.of_below hl).trans (But.of_grown hg)
  have b2 : But (fun b => va.ownBlock = some b ∨ b = y) w (w5.setCell ⟨y, 2, none⟩ v5) := (b1.sub fun b h => .inl h).setCell (.inr rfl) v5
  have hyo : va.ownBlock ≠ some y := fun e => by have := h.ca y e; rw [h.cy] at this; cases this
  have hy5 : v5.ownBlock ≠ some y := fun e => by
    rcases hd with e2 | ⟨g, e2, hg⟩
    · exact hyo (e2 ▸ e)
    · rw [e2] at e; injection e with e; have := h.hd.lt; omega
  obtain ⟨col', hc1, hc2⟩ := recol col v5 2
  have hc : ∀ b, b < w.heap.size → col' b = col b := fun b hb => by
    by_cases e : v5.ownBlock = some b
    · rw [hc1 b e]
      rcases hd with e2 | ⟨g, e2, hg⟩
      · exact (h.ca b (e2 ▸ e)).symm
      · rw [e2] at e; injection e with e; omega
    · exact hc2 b e
  have n : ∀ b c, col b = c → c ≠ 2 → c ≠ 0 → ¬ (va.ownBlock = some b ∨ b = y) := fun b c h1 h2 h3 h4 => by
    rcases h4 with h4 | h4
    · exact h2 (h1.symm.trans (h.ca b h4))
    · subst h4; exact h3 (h1.symm.trans h.cy)
  refine ⟨col', (h.hd.but b1 hyo).set (i := 2) (by simp) v5, ho.but ((But.refl (Is y) w5).setCell (p := ⟨y, 2, none⟩) rfl v5) (fun b e e2 => hy5 (by rw [show b = y from e2] at e; exact e)), h.oq.but b2 (fun b e => n b 3 (h.cq b e) (by decide) (by decide)), fun i d hi => ?_, (hc y h.hd.lt).trans h.cy, hc1, fun b e => (hc b (h.oq.lt b e).2).trans (h.cq b e), fun b hb => (hc b (by have h1 := h.hd.ge; have h2 := h.hd.lt; omega)).trans (h.lo b hb)⟩
  obtain ⟨h1, h2⟩ := h.dq i d hi
  exact ⟨h1.but b2 (n d (6 + i) h2 (by omega) (by omega)), (hc d h1.lt).trans h2⟩
/-- one more queue -/
theorem Gd.queue (h : Gd base w y col va vq qa ds) {wl w5 : World} (hl : Below w.heap.size w wl) {v5 : Value} (hg : wl.grownBy w5 vq.ownBlock) {d : Nat} (hdn : w.heap.size ≤ d) (hdb : Blk base w5 d [.slice none 0 0, .int .i64 0, .int .i64 0]) (ho : OwnL (Flat encPtr okAny) 1 57 w5 base Nowhere (ds ++ [d]) v5) (hd : v5.ownBlock = vq.ownBlock ∨ ∃ g, v5.ownBlock = some g ∧ d < g) :
    ∃ col', Gd base (w5.setCell ⟨y, 3, none⟩ v5) y col' va v5 qa (ds ++ [d]) := by
  have b1 : But (fun b => vq.ownBlock = some b) w w5 := (But.of_below hl).trans (But.of_grown hg)
  have b2 : But (fun b => vq.ownBlock = some b ∨ b = y) w (w5.setCell ⟨y, 3, none⟩ v5) := (b1.sub fun b h => .inl h).setCell (.inr rfl) v5
  have hyl := h.hd.lt
  have hyo : vq.ownBlock ≠ some y := fun e => by have := h.cq y e; rw [h.cy] at this; cases this
  have hy5 : v5.ownBlock ≠ some y := fun e => by
    rcases hd with e2 | ⟨g, e2, hg⟩
    · exact hyo (e2 ▸ e)
    · rw [e2] at e; injection e with e; omega
  have hd5 : v5.ownBlock ≠ some d := fun e => by
    rcases hd with e2 | ⟨g, e2, hg⟩
    · have := (h.oq.lt d (e2 ▸ e)).2; omega
    · rw [e2] at e; injection e with e; omega
  obtain ⟨col1, hc1, hc2⟩ := recol col v5 3
  obtain ⟨col', hk1, hk2⟩ : ∃ col' : Nat → Nat, col' d = 6 + ds.length ∧ ∀ b, b ≠ d → col' b = col1 b := by
    classical
    exact ⟨fun b => if b = d then 6 + ds.length else col1 b, if_pos rfl, fun b h => if_neg h⟩
  have hc : ∀ b, b < w.heap.size → col' b = col b := fun b hb => by
    rw [hk2 b (by omega)]
    by_cases e : v5.ownBlock = some b
    · rw [hc1 b e]
      rcases hd with e2 | ⟨g, e2, hg⟩
      · exact (h.cq b (e2 ▸ e)).symm
      · rw [e2] at e; injection e with e; omega
    · exact hc2 b e
  have n : ∀ b c, col b = c → c ≠ 3 → c ≠ 0 → ¬ (vq.ownBlock = some b ∨ b = y) := fun b c h1 h2 h3 h4 => by
    rcases h4 with h4 | h4
    · exact h2 (h1.symm.trans (h.cq b h4))
    · subst h4; exact h3 (h1.symm.trans h.cy)
  refine ⟨col', (h.hd.but b1 hyo).set (i := 3) (by simp) v5, h.oa.but b2 (fun b e => n b 2 (h.ca b e) (by decide) (by decide)), ho.but ((But.refl (Is y) w5).setCell (p := ⟨y, 3, none⟩) rfl v5) (fun b e e2 => hy5 (by rw [show b = y from e2] at e; exact e)), fun i d' hi => ?_, (hc y h.hd.lt).trans h.cy, fun b e => (hc b (h.oa.lt b e).2).trans (h.ca b e), fun b e => ?_, fun b hb => (hc b (by have h1 := h.hd.ge; have h2 := h.hd.lt; omega)).trans (h.lo b hb)⟩
  · rcases Nat.lt_or_ge i ds.length with hlt | hge
    · rw [List.getElem?_append_left hlt] at hi
      obtain ⟨h1, h2⟩ := h.dq i d' hi
      exact ⟨h1.but b2 (n d' (6 + i) h2 (by omega) (by omega)), (hc d' h1.lt).trans h2⟩
    · rw [List.getElem?_append_right hge] at hi
      have hi0 : i - ds.length = 0 := by
        have := (List.getElem?_eq_some_iff.1 hi).1
        simp at this; omega
      rw [hi0] at hi
      simp at hi
      subst hi
      refine ⟨hdb.other (p := ⟨y, 3, none⟩) (fun e => by have e : y = d := e; omega) v5, ?_⟩
      rw [hk1]; omega
  · rw [hk2 b (fun e2 => hd5 (e2 ▸ e))]
    exact hc1 b e
end
theorem ring_nil : Ring [] 0 0 [] := ⟨rfl, Nat.le_refl _, fun h => by omega, fun i x h => by simp at h⟩
theorem dq_new {base : Nat} {w : World} {d N : Nat} (h : Blk base w d [.slice none 0 0, .int .i64 0, .int .i64 0]) : DqAt base w d (Is d) N [] :=
  ⟨none, 0, 0, [], h, ring_nil, Nat.zero_le _, rfl, fun b hb => by rw [show b = d from hb]; exact ⟨h.ge, h.lt⟩, .inl ⟨rfl, rfl⟩⟩
theorem parts_eq (t : Tm) : ((layP t 0 (-1) false 0).map fun x => (x, false)) = partsD t (fun _ => false) := by
  rw [layP_all, List.map_map]; rfl
theorem nodes_pos (t : Tm) : 0 < (nodesT t).length := by
  have := nm_lt (t := t) (p := []) rfl
  omega
/-- laid: the yard at its start -/
theorem Gd.yd {base : Nat} {w w' : World} {y : Nat} {col : Nat → Nat} {va vq v' : Value} {k : Nat} {ds : List Nat} (h : Gd base w y col va vq k ds) (N : Nat) (hk : 0 < k) (hld : ds.length = k) {t : Tm} {lv : Nat} (hL : Ly base w' y v' ((layP t 0 (-1) false 0).map fun x => (x, false)) lv va vq (.slice none 0 0)) (hN : LyN (.slice none 0 0) v' w.heap.size) (hB : But (LyT y (.slice none 0 0)) w w') :
    ∃ gp cp ga ca gq cq col', v' = .slice (some ⟨gp, 0, none⟩) (nodesT t).length cp ∧ va = .slice (some ⟨ga, 0, none⟩) k ca ∧ vq = .slice (some ⟨gq, 0, none⟩) k cq ∧ Yd base w' y col' t k N gp cp ga ca gq cq ds lv (.slice none 0 0) ⟨List.replicate k none, List.replicate k [], fun _ => false, []⟩ ∧ ∀ b, b < base → col' b = 4 := by
  have hpl : ((layP t 0 (-1) false 0).map fun x => (x, false)).length = (nodesT t).length := by rw [List.length_map, layP_len]
  obtain ⟨gp, cp, e1, r1⟩ := hL.own.rowAt (by rw [hpl]; exact nodes_pos t)
  obtain ⟨ga, ca, e2, r2⟩ := h.oa.rowAt (by simpa using hk)
  obtain ⟨gq, cq, e3, r3⟩ := h.oq.rowAt (by rw [hld]; exact hk)
  rw [hpl] at e1
  rw [List.length_replicate] at e2
  rw [hld] at e3
  subst e1 e2 e3
  have hgp : w.heap.size ≤ gp := by
    rcases hN gp rfl with e | e
    · cases e
    · exact e
  obtain ⟨col', hc1, hc2⟩ : ∃ col' : Nat → Nat, col' gp = 1 ∧ ∀ b, b ≠ gp → col' b = col b := by
    classical
    exact ⟨fun b => if b = gp then 1 else col b, if_pos rfl, fun b h => if_neg h⟩
  have hc : ∀ b, b < w.heap.size → col' b = col b := fun b hb => hc2 b (by omega)
  have n : ∀ b c, col b = c → c ≠ 0 → ¬ LyT y (.slice none 0 0) b := fun b c h1 h2 h3 => by
    rcases h3 with e | e
    · subst e; exact h2 (h1.symm.trans h.cy)
    · cases e
  refine ⟨gp, cp, ga, ca, gq, cq, col', rfl, rfl, rfl, ⟨hL.hd, ?_, ?_, r3.but hB (n gq 3 (h.cq gq rfl) (by decide)), OwnL.nil _ _ _, fun i hi => ?_, (hc y h.hd.lt).trans h.cy, hc1, (hc ga r2.lt).trans (h.ca ga rfl), (hc gq r3.lt).trans (h.cq gq rfl), (fun b e => by cases e), by simp, by simp, hld⟩, fun b hb => (hc b (by have h1 := h.hd.ge; have h2 := h.hd.lt; omega)).trans (h.lo b hb)⟩
  · rw [parts_eq] at r1; exact r1
  · have := r2.but hB (n ga 2 (h.ca ga rfl) (by decide))
    rw [List.map_replicate]; exact this
  · have hil : i < ds.length := by omega
    obtain ⟨h1, h2⟩ := h.dq i ds[i] (List.getElem?_eq_getElem hil)
    refine ⟨Is ds[i], ds[i], List.getElem?_eq_getElem hil, ?_, fun b hb => ?_⟩
    · have : ((List.replicate k ([] : List Pt))[i]?).getD [] = [] := by rw [List.getElem?_replicate]; split <;> rfl
      show DqAt base w' ds[i] (Is ds[i]) N ((((List.replicate k ([] : List Pt))[i]?).getD []).map _)
      rw [this]
      exact dq_new (h1.but hB (n ds[i] (6 + i) h2 (by omega)))
    · rw [show b = ds[i] from hb, hc _ h1.lt]; exact h2
end Go.Proofs.Ytbpooepbnnbipaa
