/- Texts merged: Jn1, OwnSet, Jt1, AppStep. -/
import Derived.Test.YtgnlchfcominaaaDoorLex3
import Derived.Test.YtgnlchfcominaaaDoorJtSpec
import Derived.Test.YtgnlchfcominaaaDoorNumLib
import Derived.BigQuiet
import Derived.Test.YtgnlchfcominaaaDoorFlat
import Derived.Test.YtgnlchfcominaaaDoorLex4
import Derived.Deep.AppendLies
/- The walk of jnumber. -/
namespace Go.Proofs.YtgnlchfcominaaaDoor
open Go.RowKit
set_option linter.unusedVariables false
def tokV (t : LTok) : Value := .agg #[.int .i64 t.kind, .int .i64 (t.pos : Int), .string ⟨t.text.toArray⟩]
set_option maxHeartbeats 1000000 in
set_option maxRecDepth 100000 in
theorem jnumber_any (t : LTok) (ht : t.text.length ≤ 281474976710656) (w : World) (hN : Nums w) :
    Calls Tryd.prog 20 #[tokV t] w fun e w' => e = .returned (.bool (jnumT t)) ∧ Below w.heap.size w w' := by
  obtain ⟨k, p, l⟩ := t
  have HJ := Lib.hid (show jnumT ⟨k, p, l⟩ = (!decide (k = 1) || numJ l) from rfl)
  generalize jnumT ⟨k, p, l⟩ = out at HJ ⊢
  obtain ⟨x, hx⟩ : ∃ x : ByteArray, x = ⟨l.toArray⟩ := ⟨_, rfl⟩
  have HXL := Lib.hid (show x.data.toList = l by rw [hx])
  have hxs : x.size ≤ 281474976710656 := by rw [hx]; exact ht
  have HNJ := Lib.hid (show numJ l = (match Lib.parseIntB 64 x.data.toList with | .ok v => (⟨(Lib.itoa v).toArray⟩ : ByteArray).toList == x.toList | _ => false) by
    rw [HXL.out]
    unfold numJ
    rw [ByteArray.toList_eq x, HXL.out]
    cases Lib.parseIntB 64 l with
    | ok v => simp only [ByteArray.toList_eq]
    | _ => rfl)
  unfold tokV
  simp only
  rw [← hx]
  clear hx ht
  have D1 := Lib.hid (Blk.made w [.int .i64 k, .int .i64 (p : Int), .string x] 28 (base := 0) (Nat.zero_le _))
  have B1 : Below w.heap.size w (w.alloc (.cells #[.int .i64 k, .int .i64 (p : Int), .string x] 28)) := (Below.refl _ _).alloc (Nat.le_refl _) _
  have N1 := hN.go B1
  obtain ⟨d, hd⟩ : ∃ d, d = w.heap.size := ⟨_, rfl⟩
  have hdd := hd
  rw [← hd] at D1
  clear hdd
  generalize hr : Lib.parseIntB 64 x.data.toList = r at HNJ
  have HBD := Lib.hid (fun v (h : r = .ok v) => Lib.parseIntB_bounds (hr.trans h))
  have HPI := Lib.hid (fun W (hW : Nums W) => pi_n x hxs W hW)
  rw [hr] at HPI
  clear hr
  go_enter Tryd.func20, Tryd.ntmps20
  go_wp2_with (go_at_call 37; refine (HPI.out _ N1).mono ?_)
  rintro e W1 ⟨a, b, rfl, hab, hb1⟩
  have D2 := Lib.hid (D1.out.below hb1)
  have B2 := B1.trans (hb1.mono B1.size)
  have N2 := N1.go hb1
  rw [← hd]
  clear hd HPI D1 B1 N1 hb1
  have c0 := D2.out.cell 0 _ rfl
  have c2 := D2.out.cell 2 _ rfl
  by_cases hk : k = 1
  · have hk2 : (k != 1) = false := by simpa using hk
    cases r with
    | ok v =>
      obtain ⟨rfl, rfl⟩ := hab
      have hbd := HBD.out v rfl
      have hv0 : -9223372036854775808 ≤ v := by have := hbd.1; omega
      have hv1 : v ≤ 9223372036854775807 := by have := hbd.2; omega
      have HFI := Lib.hid (fun W (hW : Nums W) => fi_n v hv0 hv1 W hW)
      have HO := Lib.hid (show out = ((⟨(Lib.itoa v).toArray⟩ : ByteArray).toList == x.toList) by rw [HJ.out, HNJ.out, hk]; rfl)
      clear HBD hbd HJ HNJ
      generalize (⟨(Lib.itoa v).toArray⟩ : ByteArray) = y at HFI HO
      subst hk
      cases hyx : (y.toList == x.toList)
      · rw [hyx] at HO
        obtain rfl := HO.out
        go_wp2_with fail
        go_region_with (go_at_call 38; refine (HFI.out _ (N2.go (Below.refl _ _).drew)).mono ?_; rintro e w3 ⟨rfl, hb3⟩; have E3 := Lib.hid (D2.out.below (Below.trans (Below.refl _ _).drew hb3)); have j0 := E3.out.cell 0 _ rfl; have j2 := E3.out.cell 2 _ rfl; have B3 := B2.trans (Below.trans (Below.refl _ _).drew (hb3.mono B2.size)))
        all_goals
          go_wp2_with fail
          go_ret
          first | exact ⟨rfl, B3⟩ | exact ⟨by simp, B3⟩
      · rw [hyx] at HO
        obtain rfl := HO.out
        go_wp2_with fail
        go_region_with (go_at_call 38; refine (HFI.out _ (N2.go (Below.refl _ _).drew)).mono ?_; rintro e w3 ⟨rfl, hb3⟩; have E3 := Lib.hid (D2.out.below (Below.trans (Below.refl _ _).drew hb3)); have j0 := E3.out.cell 0 _ rfl; have j2 := E3.out.cell 2 _ rfl; have B3 := B2.trans (Below.trans (Below.refl _ _).drew (hb3.mono B2.size)))
        all_goals
          go_wp2_with fail
          go_ret
          first | exact ⟨rfl, B3⟩ | exact ⟨by simp, B3⟩
    | range =>
      obtain ⟨⟨z, rfl⟩, te, pe, rfl⟩ := hab
      have HO := Lib.hid (show out = false by rw [HJ.out, HNJ.out, hk]; rfl)
      obtain rfl := HO.out
      subst hk
      clear HBD HJ HNJ
      go_wp2_with fail
      go_quiet (fail)
      go_wp2_with fail
      go_ret
      exact ⟨rfl, B2.trans ⟨rfl, rfl, rfl, Nat.le_refl _, fun _ _ => rfl⟩⟩
    | _ =>
      obtain ⟨⟨z, rfl⟩, te, pe, rfl⟩ := hab
      have HO := Lib.hid (show out = false by rw [HJ.out, HNJ.out, hk]; rfl)
      obtain rfl := HO.out
      subst hk
      clear HBD HJ HNJ
      go_wp2_with fail
      go_quiet (fail)
      go_wp2_with fail
      go_ret
      exact ⟨rfl, B2.trans ⟨rfl, rfl, rfl, Nat.le_refl _, fun _ _ => rfl⟩⟩
  · have hk2 : (k != 1) = true := by simpa using hk
    have HO := Lib.hid (show out = true by rw [HJ.out]; simp [hk])
    obtain rfl := HO.out
    clear HBD HJ HNJ
    have hab2 : ∃ z, a = .int .i64 z := by cases r with
      | ok v => exact ⟨v, hab.1⟩
      | _ => exact hab.1
    obtain ⟨z, rfl⟩ := hab2
    go_wp2_with fail
    go_quiet (fail)
    go_wp2_with fail
    go_ret
    exact ⟨rfl, B2.trans ⟨rfl, rfl, rfl, Nat.le_refl _, fun _ _ => rfl⟩⟩
end Go.Proofs.YtgnlchfcominaaaDoor
/- A store into a row of the call's own: one cell of an element. -/
namespace Go.Proofs.YtgnlchfcominaaaDoor
open Go.RowKit
set_option linter.unusedVariables false
section
variable {α : Type} {enc : α → List Value} {ok : α → Prop} {size : Nat} {E : TypeId} {w w' : World} {base : Nat} {S : Blocks} {l : List α}
theorem flat_set (hlen : ∀ e, (enc e).length = size) : ∀ (l : List α) (q : Nat) (hq : q < l.length) (j : Nat), j < size → ∀ (x : α) (u : Value), enc x = (enc l[q]).set j u → ((l.set q x).map enc).flatten = ((l.map enc).flatten).set (q * size + j) u := by
  intro l
  induction l with
  | nil => intro q hq; simp at hq
  | cons a r ih =>
    intro q hq j hj x u hx
    cases q with
    | zero =>
      simp only [List.getElem_cons_zero] at hx
      simp only [List.set_cons_zero, List.map_cons, List.flatten_cons, hx, Nat.zero_mul, Nat.zero_add]
      rw [List.set_append_left _ _ (by rw [hlen]; exact hj)]
    | succ q =>
      simp only [List.getElem_cons_succ] at hx
      simp only [List.set_cons_succ, List.map_cons, List.flatten_cons]
      rw [List.set_append_right _ _ (by rw [hlen, Nat.succ_mul]; omega), hlen, ih q (by simpa using hq) j hj x u hx, Nat.succ_mul]
      congr 2
      omega
theorem flat_map {css : List (List Value)} (h1 : css.length = l.length) (h4 : ∀ (i : Nat) e cs, l[i]? = some e → css[i]? = some cs → cs = enc e ∧ ok e) : css = l.map enc := by
  apply List.ext_getElem?
  intro i
  rcases Nat.lt_or_ge i l.length with h | h
  · have hc : css[i]? = some css[i] := List.getElem?_eq_getElem (by omega)
    rw [hc, List.getElem?_map, List.getElem?_eq_getElem h]
    simp [(h4 i _ _ (List.getElem?_eq_getElem h) hc).1]
  · rw [List.getElem?_eq_none (by omega), List.getElem?_eq_none (by simpa using h)]
theorem OwnL.setJ {g n cap : Nat} (h : OwnL (Flat enc ok) size E w base S l (.slice (some ⟨g, 0, none⟩) n cap)) (hlen : ∀ e, (enc e).length = size) {q j : Nat} (hq : q < l.length) (hj : j < size) (x : α) (u : Value) (hx : enc x = (enc l[q]).set j u) (hok : ok x) :
    OwnL (Flat enc ok) size E (w.setCell ⟨g, q * size + j, none⟩ u) base S (l.set q x) (.slice (some ⟨g, 0, none⟩) n cap) := by
  obtain ⟨T, css, t1, t2, t3, h1, h2, h3, h4⟩ := h
  have hcs := flat_map (ok := ok) h1 (fun i e cs a b => h4 i e cs a b)
  subst hcs
  obtain ⟨hl, h3⟩ := h3
  rcases h3 with ⟨hv, _⟩ | ⟨g', cap', cur, hv, hbg, hg, hn, hcap, hsz, htake⟩
  · cases hv
  · injection hv with e1 e2 e3
    injection e1 with e1
    injection e1 with e1
    subst e1 e2 e3
    have hm := flat_set hlen l q hq j hj x u hx
    refine ⟨T, (l.set q x).map enc, t1, by simpa [World.setCell] using t2, t3, by simp, (fun cs hcs => by obtain ⟨y, _, rfl⟩ := List.mem_map.1 hcs; exact hlen y), ⟨by rw [hm]; simpa using hl, .inr ⟨g, cap, cur.setIfInBounds (q * size + j) u, by simp, hbg, ?_, by simpa using hn, hcap, by simpa using hsz, ?_⟩⟩, fun i e cs hi hc => ?_⟩
    · simp [World.setCell, Array.getElem?_modify, hg]
    · rw [hm, ← htake]
      simp only [List.length_set, Array.toList_setIfInBounds]
      rw [List.take_set]
    · rw [List.getElem?_map, hi] at hc
      simp at hc
      subst hc
      refine ⟨rfl, ?_⟩
      rcases Nat.lt_or_ge i l.length with hil | hil
      · by_cases hiq : q = i
        · subst hiq
          rw [List.getElem?_set_self hq] at hi
          simp at hi; subst hi; exact hok
        · rw [List.getElem?_set_ne hiq] at hi
          exact (h4 i e _ hi (by rw [List.getElem?_map, hi]; rfl)).2
      · rw [List.getElem?_eq_none (by simpa using hil)] at hi
        cases hi
end
end Go.Proofs.YtgnlchfcominaaaDoor
/- The walk of JTokens. -/
namespace Go.Proofs.YtgnlchfcominaaaDoor
open Go.RowKit
set_option linter.unusedVariables false
theorem jcl_jc (c : UInt8) : jclN c = jcN c := by
  have key : ∀ n : Fin 256, jclN (UInt8.ofNat n.val) = jcN (UInt8.ofNat n.val) := by decide +kernel
  have h := key ⟨c.toNat, c.toNat_lt⟩
  simpa using h
theorem jc_le (c : UInt8) : jcN c ≤ 4 := by rw [← jcl_jc]; exact jcl_le c
theorem jclass_j (c : UInt8) (w : World) : Calls Tryd.prog 19 #[.int .u8 (c.toNat : Int)] w fun e w' => e = .returned (.int .i64 (jcN c : Nat)) ∧ Below w.heap.size w w' := by
  rw [← jcl_jc]; exact jclass_any c w
/-- the rows of the walk: what is told, and what is open behind it -/
def rowsJ (out : List LTok) (op : Option LTok) : List LTok := out ++ op.toList
theorem toks_own {w : World} {base : Nat} {S : Blocks} {out : List LTok} {t : LTok} {v : Value} {E : TypeId} (h : OwnToks E w base S (out ++ [t]) v) :
    ∃ g cap, v = .slice (some ⟨g, 0, none⟩) (out.length + 1) cap ∧ base ≤ g ∧ g < w.heap.size ∧ (∀ o, w.frozen? ⟨g, o, none⟩ = false) ∧ okT t ∧ w.cell? ⟨g, out.length * 3, none⟩ = some (.int .i64 t.kind) ∧ w.cell? ⟨g, out.length * 3 + 1, none⟩ = some (.int .i64 (t.pos : Int)) ∧ w.cell? ⟨g, out.length * 3 + 2, none⟩ = some (.string ⟨t.text.toArray⟩) := by
  obtain ⟨g, cap, hv, h1, h2, _, _, h3, h4⟩ := OwnL.flat h (by simp)
  have hq : out.length < (out ++ [t]).length := by simp
  obtain ⟨hok, hc⟩ := h4 out.length hq
  rw [List.getElem_concat_length rfl] at hok hc
  exact ⟨g, cap, by rw [hv]; simp, h1, h2, h3, hok, hc 0 _ rfl, hc 1 _ rfl, hc 2 _ rfl⟩
end Go.Proofs.YtgnlchfcominaaaDoor
/- 'append' at a step of a region that draws its order, said of rows that read as lists. -/
namespace Go.Proofs.YtgnlchfcominaaaDoor
open Go.RowKit
set_option linter.unusedVariables false
section
variable {P : Program} {α : Type} {rd : World → Blocks → α → List Value → Prop} {size bytes : Nat} {E : TypeId} {w : World} {base : Nat} {S Tx U : Blocks} {l m : List α} {v : Value} {A : Option Addr} {n c : Nat}
/-- 'append(s, y...)' at a step of a region that draws -/
theorem step_append_list {ops : Array Oper} {o : Oper} {a : Act} {K : Act → World → Prop} {Q : Exit → Act → World → Prop} {Z : Prop} (hgd : o.guard = none) (s y : Operand) (t : TypeId) (ho : o.op = .call { callee := .builtin .append, args := #[s, y], argTypes := #[t, t] })
    (hs : a.eval s = v) (hy : a.eval y = .slice A n c)
    (i : TypeInfo) (z : Value) (ht : P.underlying t = some (.slice E)) (hi : P.info? E = some i) (hz : i.zero = some z) (hsize : i.size = size) (hby : i.bytes = bytes) (hzs : z.cells.size = size) (hsz : 0 < size)
    (hr : Keeps rd) (hx : RdL (fun w' _ e cs => rd w' Tx e cs) size bytes w U m (.slice A n c)) (hown : OwnL rd size E w base S l v) (t1 : Sub Tx S) (t2 : Sub Tx (Upto w.heap.size)) (t3 : ∀ k, v.ownBlock = some k → ¬ Tx k)
    (h1 : ∀ e cs, rd w Tx e cs → ∀ u ∈ cs, u.oneCell' = true) (h63 : l.length + m.length ≤ maxLen) (hbytes : (l.length + m.length) * bytes ≤ 140737488355328) (hbase : base ≤ w.heap.size)
    (h : ∀ v' w', OwnL rd size E w' base S (l ++ m) v' → w.grownBy w' v.ownBlock → (v'.ownBlock = v.ownBlock ∨ v'.ownBlock = some w.heap.size) → K (a.put o.dst v') w') :
    if Region.wanted o (yielded ops a.tmps) = true then Oper.wp P o a w K Q else Z := by
  have hw : Region.wanted o (yielded ops a.tmps) = true := by simp [Region.wanted, hgd]
  rw [if_pos hw]
  exact wp_append_list s y t ho i z ht hi hz hsize hby hzs hsz hr hown hx hs hy t1 t2 t3 h1 h63 hbytes hbase h
end
theorem rdI_one {w : World} {S : Blocks} {g : Nat} {x : Int} (h : w.cell? ⟨g, 0, none⟩ = some (.int .i64 x)) (hx : inI x) (hg : S g) : RdI w S [x] (.slice (some ⟨g, 0, none⟩) 1 1) :=
  ⟨_, 1, [[.int .i64 x]], rfl, Nat.le_refl _, by simp [maxLen], by simp, rfl, ⟨by simp, fun _ => ⟨g, 0, rfl, hg, fun i cs hi j v hv => by
    match i, hi with
    | 0, hi =>
      simp at hi; subst hi
      match j, hv with
      | 0, hv => simp at hv; subst hv; simpa using h⟩⟩, fun i e cs hi hc => by
    match i, hi, hc with
    | 0, hi, hc => simp at hi hc; subst hi hc; exact ⟨rfl, hx⟩⟩
theorem frozen_of_heap {w w' : World} {b o : Nat} {sp : Option Nat} (h : w'.heap[b]? = w.heap[b]?) : w'.frozen? ⟨b, o, sp⟩ = w.frozen? ⟨b, o, sp⟩ := by
  simp only [World.frozen?, h]
theorem rd_one {α : Type} {enc : α → List Value} {ok : α → Prop} {size bytes : Nat} {w : World} {S : Blocks} {g : Nat} {x : α} (hlen : (enc x).length = size) (h : ∀ (j : Nat) v, (enc x)[j]? = some v → w.cell? ⟨g, j, none⟩ = some v) (hx : ok x) (hg : S g) (hb : bytes ≤ 140737488355328) : RdL (Flat enc ok) size bytes w S [x] (.slice (some ⟨g, 0, none⟩) 1 1) :=
  ⟨_, 1, [enc x], rfl, Nat.le_refl _, by simp [maxLen], by simpa using hb, rfl, ⟨by simpa using hlen, fun _ => ⟨g, 0, rfl, hg, fun i cs hi j v hv => by
    match i, hi with
    | 0, hi => simp at hi; subst hi; simpa using h j v hv⟩⟩, fun i e cs hi hc => by
    match i, hi, hc with
    | 0, hi, hc => simp at hi hc; subst hi hc; exact ⟨rfl, hx⟩⟩
theorem cells_newAt (w : World) (vs : List Value) (E : TypeId) {g : Nat} (h : w.heap.size = g) : ∀ (j : Nat) v, vs[j]? = some v → (w.alloc (.cells vs.toArray E)).drew.cell? ⟨g, j, none⟩ = some v := by
  subst h
  intro j v hv
  have h := heap_alloc_new w (.cells vs.toArray E)
  show (w.alloc (.cells vs.toArray E)).cell? ⟨w.heap.size, j, none⟩ = some v
  unfold World.cell?
  simp only [h]
  simpa using hv
theorem grown_frozen {w w' : World} {row : Option Nat} (h : w.grownBy w' row) {b o : Nat} (hf : w.frozen? ⟨b, o, none⟩ = false) (hlt : b < w.heap.size) (hn : row ≠ some b) : w'.frozen? ⟨b, o, none⟩ = false := by
  rw [frozen_of_heap (h.block b hlt (fun e => hn e.symm))]; exact hf
theorem Sub.plus_mono2 {S : Blocks} (n m : Nat) : Sub (Plus Nowhere n m) (Plus S n m) := fun b h => h.elim (fun h => h.elim) .inr
theorem cell_new1 (w : World) (x : Value) (E : TypeId) : (w.alloc (.cells #[x] E)).cell? ⟨w.heap.size, 0, none⟩ = some x := by simp
theorem cell_newAt (w : World) (x : Value) (E : TypeId) {g : Nat} (h : w.heap.size = g) : (w.alloc (.cells #[x] E)).drew.cell? ⟨g, 0, none⟩ = some x := by subst h; exact cell_new1 w x E
theorem cell_oldAt (w : World) (x : Value) (E : TypeId) (o : Obj) : ((w.alloc (.cells #[x] E)).alloc o).drew.cell? ⟨w.heap.size, 0, none⟩ = some x :=
  (World.cell?_alloc_lt (w.alloc (.cells #[x] E)) o ⟨w.heap.size, 0, none⟩ (by simp)).trans (cell_new1 w x E)
theorem ownBlock_ne {g k n c : Nat} (h : g ≠ k) : (Value.slice (some ⟨g, 0, none⟩) n c).ownBlock ≠ some k := fun e => h (Option.some.inj e)
/-- the world after an append keeps the cells of other blocks -/
theorem grown_cell {w w' : World} {row : Option Nat} (h : w.grownBy w' row) {b o : Nat} {v : Value} (hc : w.cell? ⟨b, o, none⟩ = some v) (hn : row ≠ some b) : w'.cell? ⟨b, o, none⟩ = some v := by
  have hlt : b < w.heap.size := World.block_lt_of_cell? w _ hc
  rw [World.cell?_of_block (a := ⟨b, o, none⟩) (h.block b hlt (fun e => hn e.symm))]; exact hc
section
variable {α : Type} {rd : World → Blocks → α → List Value → Prop} {size bytes : Nat} {w : World} {S : Blocks} {l : List α}
theorem OwnL.emptyAt {E : TypeId} {base g : Nat} (hb : base ≤ w.heap.size) (hg : w.heap.size = g) : OwnL rd size E (w.alloc (.cells #[] E)) base S [] (.slice (some ⟨g, 0, none⟩) 0 0) := by
  subst hg; exact OwnL.empty w hb
/-- behind the first k of it -/
theorem RdL.drop {A : Option Addr} {n cap k : Nat} (h : RdL rd size bytes w S l (.slice A n cap)) (hk : k ≤ l.length) :
    RdL rd size bytes w S (l.drop k) (.slice (A.map fun a => a.add (k * size)) (n - k) (cap - k)) := by
  obtain ⟨A', cap', css, h1, h2, h3, h4, h5, h6, h7⟩ := h
  injection h1 with e1 e2 e3
  subst e1 e2 e3
  refine ⟨_, _, css.drop k, by rw [List.length_drop], by rw [List.length_drop]; omega, by omega, ?_, by simp [h5], ⟨fun cs hcs => h6.1 cs (List.mem_of_mem_drop hcs), fun hne => ?_⟩, fun i e cs hi hc => ?_⟩
  · rw [List.length_drop]; exact Nat.le_trans (Nat.mul_le_mul_right _ (by omega)) h4
  · obtain ⟨b, off, hA, hb, hc⟩ := h6.2 (by intro h; subst h; simp at hne)
    subst hA
    refine ⟨b, off + k * size, by simp only [Option.map_some, Addr.add]; split <;> simp_all, hb, fun i cs hi j v hv => ?_⟩
    rw [List.getElem?_drop] at hi
    have := hc (k + i) cs hi j v hv
    rw [Nat.add_mul] at this
    rw [show off + k * size + (i * size + j) = off + (k * size + i * size + j) by omega]
    exact this
  · rw [List.getElem?_drop] at hi hc
    exact h7 _ e cs hi hc
/-- the same at an end of the capacity: where it lies says nothing -/
theorem RdL.any {A A' : Option Addr} {cap cap' : Nat} (h : RdL rd size bytes w S [] (.slice A 0 cap)) (hc : cap' ≤ maxLen) : RdL rd size bytes w S [] (.slice A' 0 cap') := RdL.nil hc
end
end Go.Proofs.YtgnlchfcominaaaDoor
