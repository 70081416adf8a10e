/- Texts merged: UfJ, Blk, MapO. -/
import Derived.Test.YtfldajplclahfaaGUf3
import Derived.Test.YtfldajplclahfaaGUf1
import Derived.Maps.OwnSet
import Derived.Maps.OwnOps
/- The walk of Join, with the heads told. -/
namespace Go.Proofs.Ytfldajplclahfaa
open Go.RowKit
set_option linter.unusedVariables false
set_option maxHeartbeats 1000000 in
theorem join_rt {base n : Nat} {w : World} {b gu gs : Nat} {up sz : List Nat} {rt h : Nat → Nat} (f0 : Forest base n w b gu gs up sz) (g0 : Good n up sz rt h) (i j : Nat) (hi : i < n) (hj : j < n) (he : rt i ≠ rt j) :
    Calls Try.prog 53 #[.pointer (some ⟨b, 0, none⟩), .int .i64 (i : Int), .int .i64 (j : Int)] w fun e w' => ∃ (p q : Nat) (up' sz' : List Nat) (h' : Nat → Nat), e = .returned (.tuple #[.int .i64 (p : Int), .bool true]) ∧ ((p = rt i ∧ q = rt j) ∨ (p = rt j ∧ q = rt i)) ∧
      Forest base n w' b gu gs up' sz' ∧ Good n up' sz' (fun k => if rt k = q then p else rt k) h' ∧ But (Is2 gu gs) w w' := by
  have F0 := Lib.hid f0
  have G0 := Lib.hid g0
  clear f0 g0
  go_enter Try.func53, Try.ntmps53
  go_wp2_with fail
  refine (head_any F0.out G0.out i hi).mono ?_
  rintro e w1 ⟨rfl, up1, f1, g1, b1⟩
  have F1 := Lib.hid f1
  have G1 := Lib.hid g1
  clear f1 g1
  go_wp2_with fail
  refine (head_any F1.out G1.out j hj).mono ?_
  rintro e w2 ⟨rfl, up2, f2, g2, b2⟩
  have F := Lib.hid f2
  have G := Lib.hid g2
  have hbut : But (Is2 gu gs) w w2 := (b1.trans b2).sub (fun k hk => .inl hk)
  clear f2 g2 b1 b2 F1 G1 F0 G0
  have ha := G.out.rt_lt i hi
  have hb := G.out.rt_lt j hj
  have hn := F.out.n1
  have hne : ((rt i : Int) == (rt j : Int)) = false := by simp; omega
  have hc1 := F.out.c1
  have hlz := F.out.lz
  obtain ⟨x, hx⟩ : ∃ x, sz[rt i]? = some x := ⟨sz[rt i], List.getElem?_eq_getElem (by omega)⟩
  obtain ⟨y, hy⟩ : ∃ y, sz[rt j]? = some y := ⟨sz[rt j], List.getElem?_eq_getElem (by omega)⟩
  have hcx := F.out.szs _ x hx
  have hcy := F.out.szs _ y hy
  clear hx hy hlz
  go_wp2
  go_quiet (fail)
  go_upto_if 34 with (fail)
  go_cut [8, 9] (fun x8 x9 wx => ∃ p q : Nat, x8 = .int .i64 (p : Int) ∧ x9 = .int .i64 (q : Int) ∧ ((p = rt i ∧ q = rt j) ∨ (p = rt j ∧ q = rt i)) ∧ Hid (Forest base n wx b gu gs up2 sz) ∧ But (Is2 gu gs) w wx)
  case first =>
    rcases Nat.lt_or_ge x y with hxy | hxy
    · have hxy' : (x : Int) < (y : Int) := by omega
      go_wp2
      go_meet
      go_light
      exact ⟨rt j, rt i, rfl, rfl, .inr ⟨rfl, rfl⟩, Lib.hid (F.out.drewN _), hbut.drewN _⟩
    · have hxy' : ¬ x < y := by omega
      go_wp2
      go_meet
      go_light
      exact ⟨rt i, rt j, rfl, rfl, .inl ⟨rfl, rfl⟩, Lib.hid (F.out.drewN _), hbut.drewN _⟩
  case rest =>
    clear hc1 hcx hcy hbut F hne
    obtain ⟨p, q, rfl, rfl, hpq, F, hbut⟩ := hcut
    have HP := Lib.hid (show p < n ∧ q < n ∧ rt p = p ∧ rt q = q ∧ p ≠ q by
      have e1 := G.out.rt_self _ (G.out.rt_root i hi)
      have e2 := G.out.rt_self _ (G.out.rt_root j hj)
      rcases hpq with ⟨h1, h2⟩ | ⟨h1, h2⟩
      · rw [h1, h2]; exact ⟨ha, hb, e1, e2, he⟩
      · rw [h1, h2]; exact ⟨hb, ha, e2, e1, fun e => he e.symm⟩)
    have HPQ := Lib.hid hpq
    have hp := HP.out.1
    have hq := HP.out.2.1
    clear hpq he ha hb
    have hc0 := F.out.c0
    have hlz := F.out.lz
    have hlu := F.out.lu
    have hpz : p < sz.length := by omega
    have hqz : q < sz.length := by omega
    have hqu : q < up2.length := by omega
    clear hlz hlu
    obtain ⟨x1, hx⟩ : ∃ x, sz[p]? = some x := ⟨sz[p], List.getElem?_eq_getElem hpz⟩
    obtain ⟨y1, hy⟩ : ∃ y, sz[q]? = some y := ⟨sz[q], List.getElem?_eq_getElem hqz⟩
    obtain ⟨z1, hz⟩ : ∃ z, up2[q]? = some z := ⟨up2[q], List.getElem?_eq_getElem hqu⟩
    have hcz := F.out.ups _ z1 hz
    have hfu := F.out.fu q
    have HX := Lib.hid hx
    have HY := Lib.hid hy
    clear hx hy hz
    go_upto_region 7 with (fail)
    have hF : Forest base n (wc.setCell ⟨gu, q, none⟩ (.int .i64 (p : Int))) b gu gs (up2.set q p) sz := F.out.setU hq p
    have hb2 : But (Is2 gu gs) w (wc.setCell ⟨gu, q, none⟩ (.int .i64 (p : Int))) := hbut.setCell (p := ⟨gu, q, none⟩) (.inl rfl) _
    clear F hc0 hcz hfu hbut
    generalize wc.setCell ⟨gu, q, none⟩ (.int .i64 (p : Int)) = W at hF hb2 ⊢
    have F2 := Lib.hid hF
    clear hF
    have hc1 := F2.out.c1
    have hcx := F2.out.szs p x1 HX.out
    have hcy := F2.out.szs q y1 HY.out
    have hfs := F2.out.fs p
    have hxle : x1 ≤ 1048576 := by
      have h1 := G.out.cnt p hp
      rw [HP.out.2.2.1, HX.out] at h1
      injection h1 with h1
      have := cntL_le n rt p
      omega
    have hyle : y1 ≤ 1048576 := by
      have h1 := G.out.cnt q hq
      rw [HP.out.2.2.2.1, HY.out] at h1
      injection h1 with h1
      have := cntL_le n rt q
      omega
    go_region
    have hF : Forest base n (W.setCell ⟨gs, p, none⟩ (.int .i64 ((x1 + y1 : Nat) : Int))).drew b gu gs (up2.set q p) (sz.set p (x1 + y1)) := (F2.out.setS hp (x1 + y1)).drewN 1
    have hb3 : But (Is2 gu gs) w (W.setCell ⟨gs, p, none⟩ (.int .i64 ((x1 + y1 : Nat) : Int))).drew := (hb2.setCell (p := ⟨gs, p, none⟩) (.inr rfl) _).drew
    rw [Int.natCast_add] at hF hb3
    clear F2 hc1 hcx hcy hfs hxle hyle hb2
    generalize (W.setCell ⟨gs, p, none⟩ (.int .i64 ((x1 : Int) + (y1 : Int)))).drew = W2 at hF hb3 ⊢
    have HR := Lib.hid (show ∃ h', Good n (up2.set q p) (sz.set p (x1 + y1)) (fun k => if rt k = q then p else rt k) h' by
      obtain ⟨hp, hq, e1, e2, hpq⟩ := HP.out
      exact ⟨_, G.out.join hp hq e1 e2 hpq HX.out HY.out⟩)
    have F3 := Lib.hid hF
    clear hF HP HX HY G
    go_wp2
    go_ret2
    obtain ⟨h', g'⟩ := HR.out
    exact ⟨p, q, _, _, h', rfl, HPQ.out, F3.out, g', hb3⟩
end Go.Proofs.Ytfldajplclahfaa
/- A block of the call's own, known cell by cell. -/
namespace Go.Proofs.Ytfldajplclahfaa
open Go.RowKit
set_option linter.unusedVariables false
/-- block b, from base on, holds the cells vs, and may be written -/
structure Blk (base : Nat) (w : World) (b : Nat) (vs : List Value) : Prop where
  ge : base ≤ b
  lt : b < w.heap.size
  cell : ∀ (q : Nat) v, vs[q]? = some v → w.cell? ⟨b, q, none⟩ = some v
  fr : ∀ o, w.frozen? ⟨b, o, none⟩ = false
section
variable {base : Nat} {w w' : World} {b : Nat} {vs : List Value}
theorem Blk.but {T : Blocks} (r : Blk base w b vs) (h : But T w w') (ht : ¬ T b) : Blk base w' b vs :=
  ⟨r.ge, Nat.lt_of_lt_of_le r.lt h.size, fun q v hq => h.cell ht (r.cell q v hq), fun o => (frozen_of_block (h.block _ r.lt ht)).trans (r.fr o)⟩
theorem Blk.below (r : Blk base w b vs) (h : Below w.heap.size w w') : Blk base w' b vs := r.but (T := Nowhere) (But.of_below h) (fun h => h)
theorem Blk.drewN (r : Blk base w b vs) (n : Nat) : Blk base (w.drewN n) b vs := ⟨r.ge, r.lt, r.cell, r.fr⟩
theorem Blk.drew (r : Blk base w b vs) : Blk base w.drew b vs := ⟨r.ge, r.lt, r.cell, r.fr⟩
theorem Blk.set (r : Blk base w b vs) {i : Nat} (hi : i < vs.length) (x : Value) : Blk base (w.setCell ⟨b, i, none⟩ x) b (vs.set i x) := by
  refine ⟨r.ge, by rw [size_setCell]; exact r.lt, fun q v hq => ?_, fun o => by rw [World.frozen?_setCell]; exact r.fr o⟩
  rw [List.getElem?_set] at hq
  by_cases e : i = q
  · subst e
    rw [if_pos rfl, if_pos hi] at hq
    injection hq with hq; subst hq
    exact World.cell?_setCell_same' _ _ _ (by rw [r.cell i vs[i] (List.getElem?_eq_getElem hi)]; rfl)
  · rw [if_neg e] at hq
    rw [World.cell?_setCell_other _ _ _ _ (fun h => e (by injection h with _ h))]
    exact r.cell q v hq
theorem Blk.other (r : Blk base w b vs) {p : Addr} (hp : p.block ≠ b) (x : Value) : Blk base (w.setCell p x) b vs := by
  refine ⟨r.ge, by rw [size_setCell]; exact r.lt, fun q v hq => ?_, fun o => by rw [World.frozen?_setCell]; exact r.fr o⟩
  rw [World.cell?_setCell_other _ _ _ _ (fun h => hp (by rw [h]))]
  exact r.cell q v hq
theorem Blk.made (w : World) (vs : List Value) (E : TypeId) {base : Nat} (hb : base ≤ w.heap.size) : Blk base (w.alloc (.cells vs.toArray E)) w.heap.size vs := by
  have h := heap_alloc_new w (.cells vs.toArray E)
  refine ⟨hb, by simp, fun q v hq => ?_, fun o => ?_⟩
  · unfold World.cell?
    simp only [h]
    simpa using hq
  · unfold World.frozen?
    simp only [h]
    simp
theorem Blk.rebase (r : Blk base w b vs) {base' : Nat} (h : base' ≤ base) : Blk base' w b vs := ⟨Nat.le_trans h r.ge, r.lt, r.cell, r.fr⟩
end
/-- the same, for a row of one cell an element -/
theorem Blk.mapAt {α : Type} {f : α → Value} {base : Nat} {w : World} {b : Nat} {l : List α} (r : Blk base w b (l.map f)) {q : Nat} {x : α} (h : l[q]? = some x) : w.cell? ⟨b, q, none⟩ = some (f x) :=
  r.cell q _ (by rw [List.getElem?_map, h]; rfl)
theorem Blk.mapSet {α : Type} {f : α → Value} {base : Nat} {w : World} {b : Nat} {l : List α} (r : Blk base w b (l.map f)) {q : Nat} (hq : q < l.length) (x : α) : Blk base (w.setCell ⟨b, q, none⟩ (f x)) b ((l.set q x).map f) := by
  rw [List.map_set]
  exact r.set (by simpa using hq) _
theorem Blk.madeN (w : World) (n : Nat) (v : Value) (E : TypeId) {base : Nat} (hb : base ≤ w.heap.size) : Blk base (w.alloc (.cells (Array.replicate n v) E)) w.heap.size (List.replicate n v) := by
  have := Blk.made w (List.replicate n v) E hb
  simpa using this
end Go.Proofs.Ytfldajplclahfaa
/- A map from numbers that the call itself has made: what it has, number by number (v, ok := m[k]). -/
namespace Go.Proofs.Ytfldajplclahfaa
open Go.RowKit
open Go.Maps (Keyed IsMap)
set_option linter.unusedVariables false
def heldO (v : Value) : Option (DataW Value × List MemPlace) := some (.held v, [])
/-- block b is a map from numbers, of at most n entries, that has 'f q' at q -/
structure OwnO (P : Program) (w : World) (k : TypeId) (b n : Nat) (f : Int → Option Value) : Prop where
  ex : ∃ D : DataW Value, w.ownsMap P k heldO b n D ∧ ∀ q, inI q → ∀ zd, D.atKey (.int .i64 q) zd = match f q with | none => zd | some v => .held v
def setO (f : Int → Option Value) (a : Int) (v : Value) : Int → Option Value := fun x => if x = a then some v else f x
section
variable {P : Program} {w w' : World} {k : TypeId} {b n : Nat} {f : Int → Option Value}
theorem OwnO.made (w : World) : OwnO P (w.alloc (.map #[] 0)) k w.heap.size 0 (fun _ => none) :=
  ⟨.map [], World.ownsMap_made w P k heldO, fun q _ zd => WideAt.atKey_none zd (by simp)⟩
theorem OwnO.lt (h : OwnO P w k b n f) : b < w.heap.size := by obtain ⟨D, h1, _⟩ := h.ex; exact h1.lt
theorem OwnO.same (h : OwnO P w k b n f) (hb : w'.heap[b]? = w.heap[b]?) : OwnO P w' k b n f := by
  obtain ⟨D, ⟨es, clock, h1, h2⟩, h3⟩ := h.ex
  exact ⟨D, ⟨es, clock, hb.trans h1, h2⟩, h3⟩
theorem OwnO.but {T : Blocks} (h : OwnO P w k b n f) (hb : But T w w') (ht : ¬ T b) : OwnO P w' k b n f := h.same (hb.block b h.lt ht)
theorem OwnO.below (h : OwnO P w k b n f) (hb : Below w.heap.size w w') : OwnO P w' k b n f := h.same (hb.block b h.lt)
theorem OwnO.look {t e : TypeId} {q : Int} {z : Value} (h : OwnO P w k b n f) (hk : P.underlying k = some (.int .i64)) (ht : P.underlying t = some (.map k e)) (hz : (zeroValue e).run P w = .ok z w) (hq : inI q) :
    (Instr.lookup t (.map (some b)) (.int .i64 q) true).run P w = .ok (match f q with | none => .tuple #[z, .bool false] | some v => .tuple #[v, .bool true]) w := by
  obtain ⟨D, h1, h2⟩ := h.ex
  obtain ⟨v, ps, hrun, hv⟩ := h1.look_ok (Maps.int_keyed hk) ht hz (zd := .held z) (zp := []) rfl (Maps.keyOf_int_mk hk (wf_inI hq))
  have h3 := h2 q hq
  rw [h3 (.held z)] at hv
  rw [hrun]
  cases hf : f q with
  | none =>
    rw [hf] at hv h3
    simp only [heldO, Option.some.injEq, Prod.mk.injEq, DataW.held.injEq] at hv
    rw [Maps.has_false_of_atKey h3, hv.1]
  | some u =>
    rw [hf] at hv h3
    simp only [heldO, Option.some.injEq, Prod.mk.injEq, DataW.held.injEq] at hv
    rw [Maps.has_true_of_atKey h3, hv.1]
theorem OwnO.put {t e : TypeId} {q : Int} (h : OwnO P w k b n f) (hk : P.underlying k = some (.int .i64)) (ht : P.underlying t = some (.map k e)) (hq : inI q) (hn : n < maxLen) (v : Value) :
    ∃ w', (Instr.mapUpdate t (.map (some b)) (.int .i64 q) v).run P w = .ok () w' ∧ OwnO P w' k b (n + 1) (setO f q v) ∧ w.grownBy w' (some b) := by
  obtain ⟨D, h1, h2⟩ := h.ex
  obtain ⟨w', hrun, h3, h4⟩ := h1.update (Maps.int_keyed hk) ht hn (d := .held v) (ps := []) (val := v) (Maps.keyOf_int_mk hk (wf_inI hq)) rfl
  refine ⟨w', hrun, ⟨_, h3, fun x hx zd => ?_⟩, h4⟩
  unfold setO
  by_cases e : x = q
  · subst e
    rw [if_pos rfl, Maps.atKey_put_same (k := .int .i64 x) h1.isMap trivial]
  · rw [if_neg e, Maps.atKey_put_other (by intro h; injection h with _ h; exact e h), h2 x hx]
/-- 'v, ok := m[q]' at the operation: nothing is there -/
theorem wpList_lookO_none {ops : Array Oper} {rest : List Oper} {o : Oper} {a : Act} {Q : Exit → Act → World → Prop} (hg : o.guard = none) (m x : Operand) (t : TypeId) (hop : o.op = Op.lookup t m x true)
    (e : TypeId) (q : Int) {z : Value} (hk : P.underlying k = some (.int .i64)) (ht : P.underlying t = some (.map k e)) (hz : (zeroValue e).run P w = .ok z w)
    (hm : a.eval m = .map (some b)) (hown : OwnO P w k b n f) (hx : a.eval x = .int .i64 q) (hq : inI q) (hf : f q = none)
    (hK : wpList P ops Q rest (a.put o.dst (.tuple #[z, .bool false])) w) : wpList P ops Q (o :: rest) a w := by
  refine wpList_plain hg fun K' hK' => ?_
  have hrun := hown.look hk ht hz hq
  rw [hf] at hrun
  unfold Oper.wp
  simp [execOp, hop, hm, hx, hrun, Result.andThen]
  exact hK' _ _ hK
/-- .. v is there -/
theorem wpList_lookO_some {ops : Array Oper} {rest : List Oper} {o : Oper} {a : Act} {Q : Exit → Act → World → Prop} (hg : o.guard = none) (m x : Operand) (t : TypeId) (hop : o.op = Op.lookup t m x true)
    (e : TypeId) (q : Int) {z v : Value} (hk : P.underlying k = some (.int .i64)) (ht : P.underlying t = some (.map k e)) (hz : (zeroValue e).run P w = .ok z w)
    (hm : a.eval m = .map (some b)) (hown : OwnO P w k b n f) (hx : a.eval x = .int .i64 q) (hq : inI q) (hf : f q = some v)
    (hK : wpList P ops Q rest (a.put o.dst (.tuple #[v, .bool true])) w) : wpList P ops Q (o :: rest) a w := by
  refine wpList_plain hg fun K' hK' => ?_
  have hrun := hown.look hk ht hz hq
  rw [hf] at hrun
  unfold Oper.wp
  simp [execOp, hop, hm, hx, hrun, Result.andThen]
  exact hK' _ _ hK
/-- 'm[q] = v' at the operation -/
theorem wpList_putO {ops : Array Oper} {rest : List Oper} {o : Oper} {a : Act} {Q : Exit → Act → World → Prop} (hg : o.guard = none) (m x y : Operand) (t : TypeId) (hop : o.op = Op.mapUpdate t m x y)
    (e : TypeId) (q : Int) (v : Value) (hk : P.underlying k = some (.int .i64)) (ht : P.underlying t = some (.map k e))
    (hm : a.eval m = .map (some b)) (hown : OwnO P w k b n f) (hx : a.eval x = .int .i64 q) (hv : a.eval y = v) (hq : inI q) (hn : n < maxLen)
    (hK : ∀ w', OwnO P w' k b (n + 1) (setO f q v) → w.grownBy w' (some b) → wpList P ops Q rest (a.put o.dst undef) w') : wpList P ops Q (o :: rest) a w := by
  refine wpList_plain hg fun K' hK' => ?_
  obtain ⟨w', hrun, r1, r2⟩ := hown.put hk ht hq hn v
  unfold Oper.wp
  simp [execOp, hop, hm, hx, hv, hrun, Result.andThen]
  exact hK' _ _ (hK w' r1 r2)
end
end Go.Proofs.Ytfldajplclahfaa
