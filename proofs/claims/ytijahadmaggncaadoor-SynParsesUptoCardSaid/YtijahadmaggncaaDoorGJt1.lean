/- Texts merged: Jn1, OwnSet, Jt1. -/
import Derived.Test.YtijahadmaggncaaDoorLex3
import Derived.Test.YtijahadmaggncaaDoorJtSpec
import Derived.Test.YtijahadmaggncaaDoorNumLib
import Derived.BigQuiet
import Derived.Test.YtijahadmaggncaaDoorFlat
import Derived.Test.YtijahadmaggncaaDoorLex4
/- The walk of jnumber. -/
namespace Go.Proofs.YtijahadmaggncaaDoor
open Go.RowKit
set_option linter.unusedVariables false
def tokV (t : LTok) : Value := .agg #[.int .i64 t.kind, .int .i64 (t.pos : Int), .string ⟨t.text.toArray⟩]
set_option maxHeartbeats 1000000 in
set_option maxRecDepth 100000 in
theorem jnumber_any (t : LTok) (ht : t.text.length ≤ 281474976710656) (w : World) (hN : Nums w) :
    Calls Tryd.prog 49 #[tokV t] w fun e w' => e = .returned (.bool (jnumT t)) ∧ Below w.heap.size w w' := by
  obtain ⟨k, p, l⟩ := t
  have HJ := Lib.hid (show jnumT ⟨k, p, l⟩ = (!decide (k = 1) || numJ l) from rfl)
  generalize jnumT ⟨k, p, l⟩ = out at HJ ⊢
  obtain ⟨x, hx⟩ : ∃ x : ByteArray, x = ⟨l.toArray⟩ := ⟨_, rfl⟩
  have HXL := Lib.hid (show x.data.toList = l by rw [hx])
  have hxs : x.size ≤ 281474976710656 := by rw [hx]; exact ht
  have HNJ := Lib.hid (show numJ l = (match Lib.parseIntB 64 x.data.toList with | .ok v => (⟨(Lib.itoa v).toArray⟩ : ByteArray).toList == x.toList | _ => false) by
    rw [HXL.out]
    unfold numJ
    rw [ByteArray.toList_eq x, HXL.out]
    cases Lib.parseIntB 64 l with
    | ok v => simp only [ByteArray.toList_eq]
    | _ => rfl)
  unfold tokV
  simp only
  rw [← hx]
  clear hx ht
  have D1 := Lib.hid (Blk.made w [.int .i64 k, .int .i64 (p : Int), .string x] 55 (base := 0) (Nat.zero_le _))
  have B1 : Below w.heap.size w (w.alloc (.cells #[.int .i64 k, .int .i64 (p : Int), .string x] 55)) := (Below.refl _ _).alloc (Nat.le_refl _) _
  have N1 := hN.go B1
  obtain ⟨d, hd⟩ : ∃ d, d = w.heap.size := ⟨_, rfl⟩
  have hdd := hd
  rw [← hd] at D1
  clear hdd
  generalize hr : Lib.parseIntB 64 x.data.toList = r at HNJ
  have HBD := Lib.hid (fun v (h : r = .ok v) => Lib.parseIntB_bounds (hr.trans h))
  have HPI := Lib.hid (fun W (hW : Nums W) => pi_n x hxs W hW)
  rw [hr] at HPI
  clear hr
  go_enter Tryd.func49, Tryd.ntmps49
  go_wp2_with (go_at_call 83; refine (HPI.out _ N1).mono ?_)
  rintro e W1 ⟨a, b, rfl, hab, hb1⟩
  have D2 := Lib.hid (D1.out.below hb1)
  have B2 := B1.trans (hb1.mono B1.size)
  have N2 := N1.go hb1
  rw [← hd]
  clear hd HPI D1 B1 N1 hb1
  have c0 := D2.out.cell 0 _ rfl
  have c2 := D2.out.cell 2 _ rfl
  by_cases hk : k = 1
  · have hk2 : (k != 1) = false := by simpa using hk
    cases r with
    | ok v =>
      obtain ⟨rfl, rfl⟩ := hab
      have hbd := HBD.out v rfl
      have hv0 : -9223372036854775808 ≤ v := by have := hbd.1; omega
      have hv1 : v ≤ 9223372036854775807 := by have := hbd.2; omega
      have HFI := Lib.hid (fun W (hW : Nums W) => fi_n v hv0 hv1 W hW)
      have HO := Lib.hid (show out = ((⟨(Lib.itoa v).toArray⟩ : ByteArray).toList == x.toList) by rw [HJ.out, HNJ.out, hk]; rfl)
      clear HBD hbd HJ HNJ
      generalize (⟨(Lib.itoa v).toArray⟩ : ByteArray) = y at HFI HO
      subst hk
      cases hyx : (y.toList == x.toList)
      · rw [hyx] at HO
        obtain rfl := HO.out
        go_wp2_with fail
        go_region_with (go_at_call 84; refine (HFI.out _ (N2.go (Below.refl _ _).drew)).mono ?_; rintro e w3 ⟨rfl, hb3⟩; have E3 := Lib.hid (D2.out.below (Below.trans (Below.refl _ _).drew hb3)); have j0 := E3.out.cell 0 _ rfl; have j2 := E3.out.cell 2 _ rfl; have B3 := B2.trans (Below.trans (Below.refl _ _).drew (hb3.mono B2.size)))
        all_goals
          go_wp2_with fail
          go_ret
          first | exact ⟨rfl, B3⟩ | exact ⟨by simp, B3⟩
      · rw [hyx] at HO
        obtain rfl := HO.out
        go_wp2_with fail
        go_region_with (go_at_call 84; refine (HFI.out _ (N2.go (Below.refl _ _).drew)).mono ?_; rintro e w3 ⟨rfl, hb3⟩; have E3 := Lib.hid (D2.out.below (Below.trans (Below.refl _ _).drew hb3)); have j0 := E3.out.cell 0 _ rfl; have j2 := E3.out.cell 2 _ rfl; have B3 := B2.trans (Below.trans (Below.refl _ _).drew (hb3.mono B2.size)))
        all_goals
          go_wp2_with fail
          go_ret
          first | exact ⟨rfl, B3⟩ | exact ⟨by simp, B3⟩
    | range =>
      obtain ⟨⟨z, rfl⟩, te, pe, rfl⟩ := hab
      have HO := Lib.hid (show out = false by rw [HJ.out, HNJ.out, hk]; rfl)
      obtain rfl := HO.out
      subst hk
      clear HBD HJ HNJ
      go_wp2_with fail
      go_quiet (fail)
      go_wp2_with fail
      go_ret
      exact ⟨rfl, B2.trans ⟨rfl, rfl, rfl, Nat.le_refl _, fun _ _ => rfl⟩⟩
    | _ =>
      obtain ⟨⟨z, rfl⟩, te, pe, rfl⟩ := hab
      have HO := Lib.hid (show out = false by rw [HJ.out, HNJ.out, hk]; rfl)
      obtain rfl := HO.out
      subst hk
      clear HBD HJ HNJ
      go_wp2_with fail
      go_quiet (fail)
      go_wp2_with fail
      go_ret
      exact ⟨rfl, B2.trans ⟨rfl, rfl, rfl, Nat.le_refl _, fun _ _ => rfl⟩⟩
  · have hk2 : (k != 1) = true := by simpa using hk
    have HO := Lib.hid (show out = true by rw [HJ.out]; simp [hk])
    obtain rfl := HO.out
    clear HBD HJ HNJ
    have hab2 : ∃ z, a = .int .i64 z := by cases r with
      | ok v => exact ⟨v, hab.1⟩
      | _ => exact hab.1
    obtain ⟨z, rfl⟩ := hab2
    go_wp2_with fail
    go_quiet (fail)
    go_wp2_with fail
    go_ret
    exact ⟨rfl, B2.trans ⟨rfl, rfl, rfl, Nat.le_refl _, fun _ _ => rfl⟩⟩
end Go.Proofs.YtijahadmaggncaaDoor
/- A store into a row of the call's own: one cell of an element. -/
namespace Go.Proofs.YtijahadmaggncaaDoor
open Go.RowKit
set_option linter.unusedVariables false
section
variable {α : Type} {enc : α → List Value} {ok : α → Prop} {size : Nat} {E : TypeId} {w w' : World} {base : Nat} {S : Blocks} {l : List α}
theorem flat_set (hlen : ∀ e, (enc e).length = size) : ∀ (l : List α) (q : Nat) (hq : q < l.length) (j : Nat), j < size → ∀ (x : α) (u : Value), enc x = (enc l[q]).set j u → ((l.set q x).map enc).flatten = ((l.map enc).flatten).set (q * size + j) u := by
  intro l
  induction l with
  | nil => intro q hq; simp at hq
  | cons a r ih =>
    intro q hq j hj x u hx
    cases q with
    | zero =>
      simp only [List.getElem_cons_zero] at hx
      simp only [List.set_cons_zero, List.map_cons, List.flatten_cons, hx, Nat.zero_mul, Nat.zero_add]
      rw [List.set_append_left _ _ (by rw [hlen]; exact hj)]
    | succ q =>
      simp only [List.getElem_cons_succ] at hx
      simp only [List.set_cons_succ, List.map_cons, List.flatten_cons]
      rw [List.set_append_right _ _ (by rw [hlen, Nat.succ_mul]; omega), hlen, ih q (by simpa using hq) j hj x u hx, Nat.succ_mul]
      congr 2
      omega
theorem flat_map {css : List (List Value)} (h1 : css.length = l.length) (h4 : ∀ (i : Nat) e cs, l[i]? = some e → css[i]? = some cs → cs = enc e ∧ ok e) : css = l.map enc := by
  apply List.ext_getElem?
  intro i
  rcases Nat.lt_or_ge i l.length with h | h
  · have hc : css[i]? = some css[i] := List.getElem?_eq_getElem (by omega)
    rw [hc, List.getElem?_map, List.getElem?_eq_getElem h]
    simp [(h4 i _ _ (List.getElem?_eq_getElem h) hc).1]
  · rw [List.getElem?_eq_none (by omega), List.getElem?_eq_none (by simpa using h)]
theorem OwnL.setJ {g n cap : Nat} (h : OwnL (Flat enc ok) size E w base S l (.slice (some ⟨g, 0, none⟩) n cap)) (hlen : ∀ e, (enc e).length = size) {q j : Nat} (hq : q < l.length) (hj : j < size) (x : α) (u : Value) (hx : enc x = (enc l[q]).set j u) (hok : ok x) :
    OwnL (Flat enc ok) size E (w.setCell ⟨g, q * size + j, none⟩ u) base S (l.set q x) (.slice (some ⟨g, 0, none⟩) n cap) := by
  obtain ⟨T, css, t1, t2, t3, h1, h2, h3, h4⟩ := h
  have hcs := flat_map (ok := ok) h1 (fun i e cs a b => h4 i e cs a b)
  subst hcs
  obtain ⟨hl, h3⟩ := h3
  rcases h3 with ⟨hv, _⟩ | ⟨g', cap', cur, hv, hbg, hg, hn, hcap, hsz, htake⟩
  · cases hv
  · injection hv with e1 e2 e3
    injection e1 with e1
    injection e1 with e1
    subst e1 e2 e3
    have hm := flat_set hlen l q hq j hj x u hx
    refine ⟨T, (l.set q x).map enc, t1, by simpa [World.setCell] using t2, t3, by simp, (fun cs hcs => by obtain ⟨y, _, rfl⟩ := List.mem_map.1 hcs; exact hlen y), ⟨by rw [hm]; simpa using hl, .inr ⟨g, cap, cur.setIfInBounds (q * size + j) u, by simp, hbg, ?_, by simpa using hn, hcap, by simpa using hsz, ?_⟩⟩, fun i e cs hi hc => ?_⟩
    · simp [World.setCell, Array.getElem?_modify, hg]
    · rw [hm, ← htake]
      simp only [List.length_set, Array.toList_setIfInBounds]
      rw [List.take_set]
    · rw [List.getElem?_map, hi] at hc
      simp at hc
      subst hc
      refine ⟨rfl, ?_⟩
      rcases Nat.lt_or_ge i l.length with hil | hil
      · by_cases hiq : q = i
        · subst hiq
          rw [List.getElem?_set_self hq] at hi
          simp at hi; subst hi; exact hok
        · rw [List.getElem?_set_ne hiq] at hi
          exact (h4 i e _ hi (by rw [List.getElem?_map, hi]; rfl)).2
      · rw [List.getElem?_eq_none (by simpa using hil)] at hi
        cases hi
end
end Go.Proofs.YtijahadmaggncaaDoor
/- The walk of JTokens. -/
namespace Go.Proofs.YtijahadmaggncaaDoor
open Go.RowKit
set_option linter.unusedVariables false
theorem jcl_jc (c : UInt8) : jclN c = jcN c := by
  have key : ∀ n : Fin 256, jclN (UInt8.ofNat n.val) = jcN (UInt8.ofNat n.val) := by decide +kernel
  have h := key ⟨c.toNat, c.toNat_lt⟩
  simpa using h
theorem jc_le (c : UInt8) : jcN c ≤ 4 := by rw [← jcl_jc]; exact jcl_le c
theorem jclass_j (c : UInt8) (w : World) : Calls Tryd.prog 48 #[.int .u8 (c.toNat : Int)] w fun e w' => e = .returned (.int .i64 (jcN c : Nat)) ∧ Below w.heap.size w w' := by
  rw [← jcl_jc]; exact jclass_any c w
/-- the rows of the walk: what is told, and what is open behind it -/
def rowsJ (out : List LTok) (op : Option LTok) : List LTok := out ++ op.toList
theorem toks_own {w : World} {base : Nat} {S : Blocks} {out : List LTok} {t : LTok} {v : Value} {E : TypeId} (h : OwnToks E w base S (out ++ [t]) v) :
    ∃ g cap, v = .slice (some ⟨g, 0, none⟩) (out.length + 1) cap ∧ base ≤ g ∧ g < w.heap.size ∧ (∀ o, w.frozen? ⟨g, o, none⟩ = false) ∧ okT t ∧ w.cell? ⟨g, out.length * 3, none⟩ = some (.int .i64 t.kind) ∧ w.cell? ⟨g, out.length * 3 + 1, none⟩ = some (.int .i64 (t.pos : Int)) ∧ w.cell? ⟨g, out.length * 3 + 2, none⟩ = some (.string ⟨t.text.toArray⟩) := by
  obtain ⟨g, cap, hv, h1, h2, _, _, h3, h4⟩ := OwnL.flat h (by simp)
  have hq : out.length < (out ++ [t]).length := by simp
  obtain ⟨hok, hc⟩ := h4 out.length hq
  rw [List.getElem_concat_length rfl] at hok hc
  exact ⟨g, cap, by rw [hv]; simp, h1, h2, h3, hok, hc 0 _ rfl, hc 1 _ rfl, hc 2 _ rfl⟩
end Go.Proofs.YtijahadmaggncaaDoor
