/- The yard: its parts, workers, queues and what is done, block by block. -/
import Derived.Test.YtbpooepbnnbipaaStSpec3
import Derived.Test.YtbpooepbnnbipaaDq2
import Derived.Test.YtbpooepbnnbipaaRowAt
import Derived.Test.YtbpooepbnnbipaaBut
namespace Go.Proofs.Ytbpooepbnnbipaa
open Go.RowKit
set_option linter.unusedVariables false
theorem nodes_nm (t : Tm) : ∀ (i : Nat) (q : Pt), (nodesT t)[i]? = some q → nmP t q = i ∧ (subT t q).isSome = true := by
  induction t using Tm.ind with
  | one t h =>
    intro i q hi
    rw [nodesT_none h] at hi
    cases i with
    | zero => simp at hi; subst hi; exact ⟨rfl, rfl⟩
    | succ i => simp at hi
  | two t par x y h hx hy =>
    intro i q hi
    rw [nodesT_two h] at hi
    cases i with
    | zero => simp at hi; subst hi; exact ⟨rfl, rfl⟩
    | succ i =>
      rw [List.getElem?_cons_succ] at hi
      rcases Nat.lt_or_ge i (nodesT x).length with hlt | hge
      · rw [List.getElem?_append_left (by simpa using hlt), List.getElem?_map] at hi
        obtain ⟨r, hr, rfl⟩ := Option.map_eq_some_iff.1 hi
        obtain ⟨h1, h2⟩ := hx i r hr
        rw [nm_snoc h, subT_snoc t x y par h]
        exact ⟨by simp [h1]; omega, by simpa using h2⟩
      · rw [List.getElem?_append_right (by simpa using hge), List.getElem?_map, List.length_map] at hi
        obtain ⟨r, hr, rfl⟩ := Option.map_eq_some_iff.1 hi
        obtain ⟨h1, h2⟩ := hy _ r hr
        rw [nm_snoc h, subT_snoc t x y par h]
        exact ⟨by simp [h1]; omega, by simpa using h2⟩
/-- a part's cells -/
def encPt (x : PtP × Bool) : List Value := [.int .i64 x.1.kind, .int .i64 x.1.leaf, .int .i64 x.1.left, .int .i64 x.1.right, .int .i64 x.1.up, .bool x.1.onR, .bool x.2]
/-- all parts, each with whether it is done -/
def partsD (t : Tm) (dn : Pt → Bool) : List (PtP × Bool) := (nodesT t).map fun p => (partP t p, dn p)
theorem partsD_len (t : Tm) (dn : Pt → Bool) : (partsD t dn).length = (nodesT t).length := by simp [partsD]
theorem partsD_at {t : Tm} {p : Pt} (h : (subT t p).isSome = true) (dn : Pt → Bool) : (partsD t dn)[nmP t p]? = some (partP t p, dn p) := by
  unfold partsD; rw [List.getElem?_map, nodes_at t p h]; rfl
theorem partsD_set {t : Tm} {p : Pt} (h : (subT t p).isSome = true) (dn : Pt → Bool) : (partsD t dn).set (nmP t p) (partP t p, true) = partsD t (setD dn p) := by
  apply List.ext_getElem?
  intro i
  rw [List.getElem?_set]
  by_cases e : nmP t p = i
  · subst e
    rw [if_pos rfl, if_pos (by rw [partsD_len]; exact nm_lt h), partsD_at h, setD_same]
  · rw [if_neg e]
    unfold partsD
    rw [List.getElem?_map, List.getElem?_map]
    cases hq : (nodesT t)[i]? with
    | none => rfl
    | some q =>
      have hne : (q == p) = false := by
        rw [beq_eq_false_iff_ne]
        intro e2
        subst e2
        exact e (nodes_nm t i q hq).1
      simp [setD, hne]
/-- where a worker is, as a number -/
def numA (t : Tm) : Option Pt → Int
  | none => -1
  | some p => (nmP t p : Int)
def encN1 (x : Int) : List Value := [.int .i64 x]
def encPtr (d : Nat) : List Value := [.pointer (some ⟨d, 0, none⟩)]
def encDn (x : Nat × Nat) : List Value := [.int .i64 (x.1 : Int), .int .i64 (x.2 : Int)]
def okDn (x : Nat × Nat) : Prop := x.1 < 4611686018427387904 ∧ x.2 < 4611686018427387904
theorem RowAt.set7 {base : Nat} {w : World} {g : Nat} {L : List (PtP × Bool)} (r : RowAt encPt 7 base w g L) {i j : Nat} (hi : i < L.length) (hj : j < 7) (x : PtP × Bool) (u : Value) (hx : encPt x = (encPt L[i]).set j u) : RowAt encPt 7 base (w.setCell ⟨g, i * 7 + j, none⟩ u) g (L.set i x) := by
  have hold : (w.cell? ⟨g, i * 7 + j, none⟩).isSome = true := by
    have hl : j < (encPt L[i]).length := by simpa [encPt] using hj
    rw [r.cell i L[i] (List.getElem?_eq_getElem hi) j _ (List.getElem?_eq_getElem hl)]; rfl
  refine ⟨r.ge, by rw [size_setCell]; exact r.lt, fun k y hk l v hv => ?_, fun o => by rw [World.frozen?_setCell]; exact r.fr o⟩
  have hl7 : l < 7 := by have := (List.getElem?_eq_some_iff.1 hv).1; simpa [encPt] using this
  rw [List.getElem?_set] at hk
  by_cases e : i = k
  · subst e
    rw [if_pos rfl, if_pos hi] at hk
    injection hk with hk; subst hk
    rw [hx, List.getElem?_set] at hv
    by_cases e2 : j = l
    · subst e2
      rw [if_pos rfl, if_pos (by simpa [encPt] using hj)] at hv
      injection hv with hv; subst hv
      exact World.cell?_setCell_same' _ _ _ hold
    · rw [if_neg e2] at hv
      rw [World.cell?_setCell_other _ _ _ _ (fun h => by injection h with _ h; omega)]
      exact r.cell i _ (List.getElem?_eq_getElem hi) l v hv
  · rw [if_neg e] at hk
    rw [World.cell?_setCell_other _ _ _ _ (fun h => by injection h with _ h; omega)]
    exact r.cell k y hk l v hv
theorem RowAt.set1 {α : Type} {enc : α → List Value} {base : Nat} {w : World} {g : Nat} {L : List α} (r : RowAt enc 1 base w g L) (he : ∀ y, (enc y).length = 1) {i : Nat} (hi : i < L.length) (x : α) (u : Value) (hx : enc x = [u]) : RowAt enc 1 base (w.setCell ⟨g, i, none⟩ u) g (L.set i x) := by
  have hold : (w.cell? ⟨g, i, none⟩).isSome = true := by
    have := r.cell i L[i] (List.getElem?_eq_getElem hi) 0 _ (List.getElem?_eq_getElem (by rw [he]; omega))
    rw [Nat.mul_one, Nat.add_zero] at this
    rw [this]; rfl
  refine ⟨r.ge, by rw [size_setCell]; exact r.lt, fun k y hk l v hv => ?_, fun o => by rw [World.frozen?_setCell]; exact r.fr o⟩
  have hl : l = 0 := by have := (List.getElem?_eq_some_iff.1 hv).1; rw [he] at this; omega
  subst hl
  rw [List.getElem?_set] at hk
  by_cases e : i = k
  · subst e
    rw [if_pos rfl, if_pos hi] at hk
    injection hk with hk; subst hk
    rw [hx] at hv
    simp at hv; subst hv
    rw [Nat.mul_one, Nat.add_zero]
    exact World.cell?_setCell_same' _ _ _ hold
  · rw [if_neg e] at hk
    rw [World.cell?_setCell_other _ _ _ _ (fun h => by injection h with _ h; omega)]
    exact r.cell k y hk 0 v hv
/-- the blocks that the yard is made of; what is no part of it has colour 4 -/
def Yc (col : Nat → Nat) : Blocks := fun b => col b ≠ 4
/-- the yard in block y -/
structure Yd (base : Nat) (w : World) (y : Nat) (col : Nat → Nat) (t : Tm) (k N gp cp ga ca gq cq : Nat) (ds : List Nat) (lv : Int) (od : Value) (s : Vs) : Prop where
  hd : Blk base w y [.slice (some ⟨gp, 0, none⟩) (nodesT t).length cp, .int .i64 lv, .slice (some ⟨ga, 0, none⟩) k ca, .slice (some ⟨gq, 0, none⟩) k cq, od]
  ps : RowAt encPt 7 base w gp (partsD t s.dn)
  at_ : RowAt encN1 1 base w ga (s.at_.map (numA t))
  ptr : RowAt encPtr 1 base w gq ds
  dn : OwnL (Flat encDn okDn) 2 34 w base Nowhere s.out od
  qs : ∀ i, i < k → ∃ X d, ds[i]? = some d ∧ DqAt base w d X N (((s.qs[i]?).getD []).map fun p => (nmP t p : Int)) ∧ ∀ b, X b → col b = 6 + i
  cy : col y = 0
  cp : col gp = 1
  ca : col ga = 2
  cq : col gq = 3
  co : ∀ b, od.ownBlock = some b → col b = 5
  la : s.at_.length = k
  lq : s.qs.length = k
  ld : ds.length = k
section
variable {base : Nat} {w w' : World} {y : Nat} {col : Nat → Nat} {t : Tm} {k N gp cp ga ca gq cq : Nat} {ds : List Nat} {lv : Int} {od : Value} {s : Vs}
/-- what is no part of it may change -/
theorem Yd.but {T : Blocks} (h : Yd base w y col t k N gp cp ga ca gq cq ds lv od s) (hb : But T w w') (hT : ∀ b, T b → b < w.heap.size → col b = 4) : Yd base w' y col t k N gp cp ga ca gq cq ds lv od s := by
  have n : ∀ b c, b < w.heap.size → col b = c → c ≠ 4 → ¬ T b := fun b c h1 h2 h3 h4 => h3 (h2 ▸ hT b h4 h1)
  refine ⟨h.hd.but hb (n y 0 h.hd.lt h.cy (by decide)), h.ps.but hb (n gp 1 h.ps.lt h.cp (by decide)), h.at_.but hb (n ga 2 h.at_.lt h.ca (by decide)), h.ptr.but hb (n gq 3 h.ptr.lt h.cq (by decide)), h.dn.but hb (fun b e => n b 5 (h.dn.lt b e).2 (h.co b e) (by decide)), fun i hi => ?_, h.cy, h.cp, h.ca, h.cq, h.co, h.la, h.lq, h.ld⟩
  obtain ⟨X, d, h1, h2, h3⟩ := h.qs i hi
  refine ⟨X, d, h1, ?_, h3⟩
  have hx : ∀ b, X b → b < w.heap.size := by obtain ⟨A, m, top, r, _, _, _, _, h5, _⟩ := h2; exact fun b hb => (h5 b hb).2
  exact h2.but hb (fun b hb => n b (6 + i) (hx b hb) (h3 b hb) (by omega))
theorem Yd.below (h : Yd base w y col t k N gp cp ga ca gq cq ds lv od s) (hb : Below w.heap.size w w') : Yd base w' y col t k N gp cp ga ca gq cq ds lv od s :=
  h.but (T := Nowhere) (But.of_below hb) (fun _ h => h.elim)
theorem Yd.colour (h : Yd base w y col t k N gp cp ga ca gq cq ds lv od s) {col' : Nat → Nat} (hc : ∀ b, b < w.heap.size → col' b = col b) : Yd base w y col' t k N gp cp ga ca gq cq ds lv od s := by
  refine ⟨h.hd, h.ps, h.at_, h.ptr, h.dn, fun i hi => ?_, (hc _ h.hd.lt).trans h.cy, (hc _ h.ps.lt).trans h.cp, (hc _ h.at_.lt).trans h.ca, (hc _ h.ptr.lt).trans h.cq, fun b e => (hc _ (h.dn.lt b e).2).trans (h.co b e), h.la, h.lq, h.ld⟩
  obtain ⟨X, d, h1, h2, h3⟩ := h.qs i hi
  refine ⟨X, d, h1, h2, fun b hb => ?_⟩
  have hx : b < w.heap.size := by obtain ⟨A, m, top, r, _, _, _, _, h5, _⟩ := h2; exact (h5 b hb).2
  exact (hc b hx).trans (h3 b hb)
/-- a part is marked as done -/
theorem Yd.mark (h : Yd base w y col t k N gp cp ga ca gq cq ds lv od s) {p : Pt} (hp : (subT t p).isSome = true) : Yd base (w.setCell ⟨gp, nmP t p * 7 + 6, none⟩ (.bool true)) y col t k N gp cp ga ca gq cq ds lv od { s with dn := setD s.dn p } := by
  have hb := But.setCell (T := Is gp) (But.refl _ w) (p := ⟨gp, nmP t p * 7 + 6, none⟩) rfl (.bool true)
  have n : ∀ b c, col b = c → c ≠ 1 → ¬ Is gp b := fun b c h2 h3 h4 => h3 (by unfold Is at h4; subst h4; exact h2.symm.trans h.cp)
  have hi : nmP t p < (partsD t s.dn).length := by rw [partsD_len]; exact nm_lt hp
  have hat : (partsD t s.dn)[nmP t p] = (partP t p, s.dn p) := by
    have := partsD_at hp s.dn
    rw [List.getElem?_eq_getElem hi] at this
    exact Option.some.inj this
  refine ⟨h.hd.but hb (n y 0 h.cy (by decide)), ?_, h.at_.but hb (n ga 2 h.ca (by decide)), h.ptr.but hb (n gq 3 h.cq (by decide)), h.dn.but hb (fun b e => n b 5 (h.co b e) (by decide)), fun i hi => ?_, h.cy, h.cp, h.ca, h.cq, h.co, h.la, h.lq, h.ld⟩
  · have := h.ps.set7 hi (j := 6) (by decide) (partP t p, true) (.bool true) (by rw [hat]; rfl)
    rw [partsD_set hp] at this
    exact this
  · obtain ⟨X, d, h1, h2, h3⟩ := h.qs i hi
    exact ⟨X, d, h1, h2.but hb (fun b hb => n b (6 + i) (h3 b hb) (by omega)), h3⟩
/-- one of its queues has changed -/
theorem Yd.queue (h : Yd base w y col t k N gp cp ga ca gq cq ds lv od s) {i : Nat} (hi : i < k) {X : Blocks} {d : Nat} (hd : ds[i]? = some d) (hX : ∀ b, X b → col b = 6 + i) (hb : But X w w') {X' : Blocks} {q : List Pt} (hq : DqAt base w' d X' N (q.map fun p => (nmP t p : Int))) {col' : Nat → Nat} (hc : ∀ b, b < w.heap.size → col' b = col b) (hX' : ∀ b, X' b → col' b = 6 + i) :
    Yd base w' y col' t k N gp cp ga ca gq cq ds lv od { s with qs := s.qs.set i q } := by
  have n : ∀ b c, col b = c → c < 6 → ¬ X b := fun b c h2 h3 h4 => by have := hX b h4; omega
  have h' : Yd base w y col' t k N gp cp ga ca gq cq ds lv od s := h.colour hc
  refine ⟨h.hd.but hb (n y 0 h.cy (by decide)), h.ps.but hb (n gp 1 h.cp (by decide)), h.at_.but hb (n ga 2 h.ca (by decide)), h.ptr.but hb (n gq 3 h.cq (by decide)), h.dn.but hb (fun b e => n b 5 (h.co b e) (by decide)), fun j hj => ?_, h'.cy, h'.cp, h'.ca, h'.cq, h'.co, h.la, by simp [h.lq], h.ld⟩
  by_cases e : i = j
  · subst e
    refine ⟨X', d, hd, ?_, hX'⟩
    have : i < s.qs.length := by rw [h.lq]; exact hi
    simpa [this] using hq
  · obtain ⟨Y, d2, h1, h2, h3⟩ := h.qs j hj
    obtain ⟨Y', d2', h1', h2', h3'⟩ := h'.qs j hj
    refine ⟨Y, d2, h1, ?_, fun b hb => ?_⟩
    · rw [List.getElem?_set_ne e]
      exact h2.but hb (fun b hb hx => by have := h3 b hb; have := hX b hx; omega)
    · have hx : b < w.heap.size := by obtain ⟨A, m, top, r, _, _, _, _, h5, _⟩ := h2; exact (h5 b hb).2
      rw [hc b hx]; exact h3 b hb
/-- a worker goes elsewhere -/
theorem Yd.move (h : Yd base w y col t k N gp cp ga ca gq cq ds lv od s) {i : Nat} (hi : i < k) (a : Option Pt) : Yd base (w.setCell ⟨ga, i, none⟩ (.int .i64 (numA t a))) y col t k N gp cp ga ca gq cq ds lv od { s with at_ := s.at_.set i a } := by
  have hb := But.setCell (T := Is ga) (But.refl _ w) (p := ⟨ga, i, none⟩) rfl (.int .i64 (numA t a))
  have n : ∀ b c, col b = c → c ≠ 2 → ¬ Is ga b := fun b c h2 h3 h4 => h3 (by unfold Is at h4; subst h4; exact h2.symm.trans h.ca)
  refine ⟨h.hd.but hb (n y 0 h.cy (by decide)), h.ps.but hb (n gp 1 h.cp (by decide)), ?_, h.ptr.but hb (n gq 3 h.cq (by decide)), h.dn.but hb (fun b e => n b 5 (h.co b e) (by decide)), fun j hj => ?_, h.cy, h.cp, h.ca, h.cq, h.co, by simp [h.la], h.lq, h.ld⟩
  · have := h.at_.set1 (fun _ => rfl) (i := i) (by rw [List.length_map, h.la]; exact hi) (numA t a) (.int .i64 (numA t a)) rfl
    rw [← List.map_set] at this
    exact this
  · obtain ⟨X, d, h1, h2, h3⟩ := h.qs j hj
    exact ⟨X, d, h1, h2.but hb (fun b hb => n b (6 + j) (h3 b hb) (by omega)), h3⟩
/-- one cell of a part -/
theorem Yd.part (h : Yd base w y col t k N gp cp ga ca gq cq ds lv od s) {p : Pt} (hp : (subT t p).isSome = true) (j : Nat) {v : Value} (hv : (encPt (partP t p, s.dn p))[j]? = some v) : w.cell? ⟨gp, nmP t p * 7 + j, none⟩ = some v := h.ps.cell _ _ (partsD_at hp s.dn) j v hv
theorem Yd.worker (h : Yd base w y col t k N gp cp ga ca gq cq ds lv od s) {i : Nat} (hi : i < k) : w.cell? ⟨ga, i, none⟩ = some (.int .i64 (numA t ((s.at_[i]?).getD none))) := by
  have hl : i < s.at_.length := by rw [h.la]; exact hi
  have := h.at_.cell i (numA t s.at_[i]) (by rw [List.getElem?_map, List.getElem?_eq_getElem hl]; rfl) 0 _ rfl
  rw [Nat.mul_one, Nat.add_zero] at this
  rw [this, List.getElem?_eq_getElem hl]; rfl
theorem Yd.deque (h : Yd base w y col t k N gp cp ga ca gq cq ds lv od s) {i : Nat} (hi : i < k) : ∃ X d, ds[i]? = some d ∧ DqAt base w d X N (((s.qs[i]?).getD []).map fun p => (nmP t p : Int)) ∧ (∀ b, X b → col b = 6 + i) ∧ w.cell? ⟨gq, i, none⟩ = some (.pointer (some ⟨d, 0, none⟩)) := by
  obtain ⟨X, d, h1, h2, h3⟩ := h.qs i hi
  have := h.ptr.cell i d h1 0 _ rfl
  rw [Nat.mul_one, Nat.add_zero] at this
  exact ⟨X, d, h1, h2, h3, this⟩
end
end Go.Proofs.Ytbpooepbnnbipaa
