/- The walk of the reference's lrename. -/
import Derived.Test.YtnpgpcnkdocknaaGreatDoorGRn11
import Derived.BigRegion
import Derived.LoopNIn
import Derived.RangeFuncNested
namespace Go.Proofs.YtnpgpcnkdocknaaGreatDoor
open Go.RowKit
set_option linter.unusedVariables false
theorem okS_n : okS noS := by unfold okS; decide
theorem oneP {w : World} {S : Blocks} : ∀ (e : Str × Str) (cs : List Value), Flat encP okP w S e cs → ∀ u ∈ cs, u.oneCell' = true := by
 rintro e _ ⟨rfl, _⟩ u hu
 simp only [encP, List.mem_cons, List.not_mem_nil, or_false] at hu
 rcases hu with rfl | rfl <;> rfl
theorem infoP : (Tryz.prog.info? 89).map (fun i => (i.zero, i.size, i.bytes)) = some (some (.agg #[.string ⟨#[]⟩, .string ⟨#[]⟩]), 2, 32) := by kernel_rfl
theorem own_lit {α : Type} {enc : α → List Value} {ok : α → Prop} {size base : Nat} {E : TypeId} {S : Blocks} (w : World) (x : α) (hlen : (enc x).length = size) (hx : ok x) (hb : base ≤ w.heap.size) : OwnL (Flat enc ok) size E (w.alloc (.cells (enc x).toArray E)) base S [x] (.slice (some ⟨w.heap.size, 0, none⟩) 1 1) := by
 refine ⟨Nowhere, [enc x], Sub.nowhere _, Sub.nowhere _, fun _ _ h => h, rfl, fun cs hc => by rw [List.mem_singleton.1 hc]; exact hlen, ⟨by simp [hlen], .inr ⟨w.heap.size, 1, (enc x).toArray, rfl, hb, ?_, Nat.le_refl _, by simp [maxLen], by simp [hlen], by simp [← hlen]⟩⟩, fun i e cs he hc => ?_⟩
 ·exact World.alloc_heap_new w _
 ·cases i with
  | zero => simp only [List.getElem?_cons_zero, Option.some.injEq] at he hc; subst he; subst hc; exact ⟨rfl, hx⟩
  | succ i => simp at hc
theorem NmR2.up {M M' : Nat} {v8 : Value} {W : World} {E : Env} {nm : Value} (h : NmR2 M v8 W E nm) (hM : M ≤ M') : NmR2 M' v8 W E nm := by
 obtain ⟨T, hT, r⟩ := h
 exact ⟨T, fun k hk => ⟨Nat.lt_of_lt_of_le (hT k hk).1 hM, (hT k hk).2⟩, r⟩
theorem NmR2.canon {M : Nat} {v8 : Value} {W : World} {E : Env} {nm : Value} (h : NmR2 M v8 W E nm) : RdNm W (fun k => k < M ∧ v8.ownBlock ≠ some k) E nm := by
 obtain ⟨T, hT, r⟩ := h
 exact r.sub Flat.keeps hT
theorem LB.upto {n0 d y : Nat} {S : Blocks} {w : World} {a b : Ex} {VA VB : Value} {body els : List St} {v1 v2 : Value} {cs : List Value} {O : List St} {v8 : Value} {E : Env} {nm : Value} {W : World} {ys : List Value} (h : LB n0 d y S w a b VA VB body els v1 v2 cs O v8 E nm W ys) : Sub (fun k => k < d ∧ v8.ownBlock ≠ some k) (Upto W.heap.size) := fun k hk => Nat.lt_trans hk.1 h.rn.bd.lt
theorem LB.nW {n0 d y : Nat} {S : Blocks} {w : World} {a b : Ex} {VA VB : Value} {body els : List St} {v1 v2 : Value} {cs : List Value} {O : List St} {v8 : Value} {E : Env} {nm : Value} {W : World} {ys : List Value} (h : LB n0 d y S w a b VA VB body els v1 v2 cs O v8 E nm W ys) : Sub S (Upto W.heap.size) := by
 have h1 := h.rn.bd.lt
 have h0 := h.rn.bd.ge
 exact h.sS.trans (Sub.upto (by omega))
theorem NmY.stx_ {M y : Nat} {v8 : Value} {W W2 : World} {E : Env} {nm : Value} (h : ∃ T, (∀ k, T k → k < W.heap.size ∧ v8.ownBlock ≠ some k ∧ k ≠ y) ∧ RdNm W T E nm) (hs : StayX y W W2) : NmR2 W2.heap.size v8 W2 E nm := by
 obtain ⟨T, hT, r⟩ := h
 refine ⟨T, fun k hk => ⟨Nat.lt_of_lt_of_le (hT k hk).1 hs.2.2.size, (hT k hk).2.1⟩, r.keep Flat.keeps (Sub.refl _) (fun p hp => hs.1 p (hT _ hp).1 (hT _ hp).2.2)⟩
def NmY (y : Nat) (v8 : Value) (W : World) (E : Env) (nm : Value) : Prop := ∃ T, (∀ k, T k → k < W.heap.size ∧ v8.ownBlock ≠ some k ∧ k ≠ y) ∧ RdNm W T E nm
theorem NmY.stx {y : Nat} {v8 : Value} {W W2 : World} {E : Env} {nm : Value} (h : NmY y v8 W E nm) (_ : True) (hs : StayX y W W2) : NmR2 W2.heap.size v8 W2 E nm := NmY.stx_ (M := 0) h hs
def LRs (l : List St) : Prop := ∀ (w : World) (S Sn : Blocks) (V : Env) (m : Nat) (v names : Value), PowT w → Sub S (Upto w.heap.size) → RdSts w S l v → Sub Sn (Upto w.heap.size) → RdNm w Sn V names → St.wts l ≤ 67108864 → m + St.wts l ≤ 1073741824 → V.length + St.wts l ≤ 1073741000 →
 Calls Tryz.prog 18 #[v, names, .int .i64 (m : Int)] w fun e w' => ∃ x, e = .returned (.tuple #[x, .int .i64 (((renL l V m).2 : Nat) : Int)]) ∧ RdSts w' (Plus S w.heap.size w'.heap.size) (renL l V m).1 x ∧ Below w.heap.size w w'
set_option maxHeartbeats 8000000 in
set_option maxRecDepth 100000 in
theorem lr_one (l : List St) (h : ∀ k s a b body els, St.mk k s a b body els ∈ l → LRs body ∧ LRs els) : LRs l := by
 intro w S Sn V m v names hT hS r hSn rn h1 h2 h3
 obtain ⟨i0, hi, hz0, hz1', hz2⟩ := info_parts infoSt
 obtain ⟨i1, hj, hy0, hy1', hy2⟩ := info_parts infoP
 obtain ⟨A, cap, rfl, hl, hcm, hby⟩ := r.form
 unfold maxLen at hcm
 have H := hid h
 have R := hid r
 have HS := hid hS
 have HSN := hid hSn
 have RN := hid rn
 have HPW := hid (show ∀ w', Below w.heap.size w w' → PowT w' from fun w' hb => hT.go hb)
 clear h r hS hSn rn hT
 go_enter Tryz.func18, Tryz.ntmps18
 go_wp2_with fail
 go_loopw [1, 2, 8, 15] (fun t1 t2 t8 t15 wr => ∃ q : Nat, q ≤ l.length ∧ t15 = .int .i64 q ∧ t2 = .int .i64 (((renP (l.take q) V m).2.2 : Nat) : Int) ∧ Hid (NmR2 wr.heap.size t8 wr (renP (l.take q) V m).2.1 t1) ∧ Hid (OwnL RdSt 12 82 wr w.heap.size (Plus S w.heap.size wr.heap.size) (renP (l.take q) V m).1 t8) ∧ Hid (Below w.heap.size w wr) ∧ Hid (∀ k, t8.ownBlock = some k → w.heap.size ≤ k ∧ k < wr.heap.size)) (fun _ _ _ t15 _ => l.length - (intOf t15).toNat)
 case atStart => exact ⟨0, by omega, rfl, by rw [List.take_zero, renP_nil], hid (by rw [List.take_zero, renP_nil]; exact ⟨Sn, fun k hk => ⟨HSN.out k hk, by simp [Value.ownBlock]⟩, RN.out⟩), hid (by rw [List.take_zero, renP_nil]; exact OwnL.nil _ _ _), hid (Below.refl _ _), hid (fun k hk => by simp [Value.ownBlock] at hk)⟩
 case round =>
  obtain ⟨q, hq, rfl, rfl, HN, HO, HB, HV⟩ := hrel
  by_cases hlt : q < l.length
  ·have hwr : w.heap.size ≤ wr.heap.size := HB.out.size
   have hsame : Same S w wr := same_of_below HB.out HS.out
   obtain ⟨b0, off, cs, rfl, hb, hcl, hcell, hrd⟩ := (R.out.keep RdSt.keeps (Sub.refl _) hsame).at_ hlt
   have hb : b0 < w.heap.size := HS.out _ hb
   have hb0 : b0 < wr.heap.size := by omega
   have hmem := List.getElem_mem hlt
   have htk : l.take (q + 1) = l.take q ++ [l[q]] := by rw [List.take_succ_eq_append_getElem hlt]
   have hwq := wts_take l hlt
   obtain ⟨st, hst⟩ : ∃ st, l[q] = st := ⟨_, rfl⟩
   rw [hst] at hrd hmem htk hwq
   obtain ⟨k, s, a, b, body, els⟩ := st
   obtain ⟨k1, n1, s1, A1, m1, p1, k2, n2, s2, A2, m2, p2, A3, p3, A4, p4, rfl, hk, hs, ra, rb, rv, rv'⟩ := hrd.cells
   have e0 : wr.cell? ⟨b0, off + q * 12, none⟩ = some _ := hcell 0 _ rfl
   have e1 : wr.cell? ⟨b0, off + q * 12 + 1, none⟩ = some _ := hcell 1 _ rfl; have e2 : wr.cell? ⟨b0, off + q * 12 + 2, none⟩ = some _ := hcell 2 _ rfl; have e3 : wr.cell? ⟨b0, off + q * 12 + 3, none⟩ = some _ := hcell 3 _ rfl; have e4 : wr.cell? ⟨b0, off + q * 12 + 4, none⟩ = some _ := hcell 4 _ rfl; have e5 : wr.cell? ⟨b0, off + q * 12 + 5, none⟩ = some _ := hcell 5 _ rfl; have e6 : wr.cell? ⟨b0, off + q * 12 + 6, none⟩ = some _ := hcell 6 _ rfl; have e7 : wr.cell? ⟨b0, off + q * 12 + 7, none⟩ = some _ := hcell 7 _ rfl; have e8 : wr.cell? ⟨b0, off + q * 12 + 8, none⟩ = some _ := hcell 8 _ rfl; have e9 : wr.cell? ⟨b0, off + q * 12 + 9, none⟩ = some _ := hcell 9 _ rfl; have e10 : wr.cell? ⟨b0, off + q * 12 + 10, none⟩ = some _ := hcell 10 _ rfl; have e11 : wr.cell? ⟨b0, off + q * 12 + 11, none⟩ = some _ := hcell 11 _ rfl
   obtain ⟨X, hX, hXl⟩ := renP_env V m _ (l.take q) rfl
   have hOl := renP_len V m (l.take q)
   have hMl := renL_le (l.take q) V m
   rw [← (renP_L (l.take q) V m).2] at hMl
   have htl : (l.take q).length = q := by simp; omega
   have hqw : q ≤ St.wts (l.take q) := by have := len_wts (l.take q); omega
   have hEl0 : ((renP (l.take q) V m).2.1).length ≤ V.length + St.wts (l.take q) := by rw [hX, List.length_append]; omega
   rw [St.wt] at hwq
   obtain ⟨⟨O1, E1, M1⟩, hP⟩ : ∃ x, x = renP (l.take q) V m := ⟨_, rfl⟩
   rw [← hP] at HN HO hOl hMl hEl0 ⊢
   dsimp only at HN HO hOl hMl hEl0 ⊢
   have HOKs := hid (show okS s from hs)
   have HIB := hid (H.out _ _ _ _ _ _ hmem)
   have hEl : E1.length ≤ 1073741000 := by omega
   have hEy : E1.length + 1 + St.wts body + St.wts els ≤ 1073741000 := by omega
   have hMy0 : M1 + 1 + St.wts body + St.wts els ≤ 1073741824 := by omega
   have hby1 : St.wts body ≤ 67108864 := by omega
   have hby2 : St.wts els ≤ 67108864 := by omega
   have hO1l : O1.length ≤ 67108864 := by omega
   have rva : RdE wr S a (exV k1 n1 s1 (.slice A1 m1 p1)) := RdEx.toE ra
   have rvb : RdE wr S b (exV k2 n2 s2 (.slice A2 m2 p2)) := RdEx.toE rb
   have hbel1 : Below wr.heap.size wr (wr.alloc (.cells #[.int .i64 k, .string s, .int .i64 k1, .int .i64 n1, .string s1, .slice A1 m1 p1, .int .i64 k2, .int .i64 n2, .string s2, .slice A2 m2 p2, .slice A3 body.length p3, .slice A4 els.length p4] 82)) := (Below.refl _ _).alloc (Nat.le_refl _) _
   have hbel : Below wr.heap.size wr (((wr.alloc (.cells #[.int .i64 k, .string s, .int .i64 k1, .int .i64 n1, .string s1, .slice A1 m1 p1, .int .i64 k2, .int .i64 n2, .string s2, .slice A2 m2 p2, .slice A3 body.length p3, .slice A4 els.length p4] 82))).alloc (.cells #[.int .i64 k, .string ⟨#[]⟩, .int .i64 0, .int .i64 0, .string ⟨#[]⟩, .slice none 0 0, .int .i64 0, .int .i64 0, .string ⟨#[]⟩, .slice none 0 0, .slice none 0 0, .slice none 0 0] 82)) := hbel1.alloc (by simp) _
   have hsu : Sub S (Upto wr.heap.size) := HS.out.trans (Sub.upto hwr)
   have hrw : LB w.heap.size wr.heap.size (wr.heap.size + 1) S w a b (exV k1 n1 s1 (.slice A1 m1 p1)) (exV k2 n2 s2 (.slice A2 m2 p2)) body els (.slice A3 body.length p3) (.slice A4 els.length p4) [.int .i64 k, .string s, .int .i64 k1, .int .i64 n1, .string s1, .slice A1 m1 p1, .int .i64 k2, .int .i64 n2, .string s2, .slice A2 m2 p2, .slice A3 body.length p3, .slice A4 els.length p4] O1 u8 E1 u1 (((wr.alloc (.cells #[.int .i64 k, .string s, .int .i64 k1, .int .i64 n1, .string s1, .slice A1 m1 p1, .int .i64 k2, .int .i64 n2, .string s2, .slice A2 m2 p2, .slice A3 body.length p3, .slice A4 els.length p4] 82))).alloc (.cells #[.int .i64 k, .string ⟨#[]⟩, .int .i64 0, .int .i64 0, .string ⟨#[]⟩, .slice none 0 0, .int .i64 0, .int .i64 0, .string ⟨#[]⟩, .slice none 0 0, .slice none 0 0, .slice none 0 0] 82)) [.int .i64 k, .string noS, .int .i64 0, .int .i64 0, .string noS, .slice none 0 0, .int .i64 0, .int .i64 0, .string noS, .slice none 0 0, .slice none 0 0, .slice none 0 0] :=
    ⟨rfl, HB.out.trans (hbel.mono hwr), HO.out.keep RdSt.keeps hbel, HV.out, HN.out.keep (same_of_below hbel (fun k hk => hk.1)), ⟨(Blk.made wr _ 82 hwr).below ((Below.refl _ _).alloc (Nat.le_refl _) _), rva.go hbel hsu, rvb.go hbel hsu, rv.go RdSt.keeps hbel hsu (Sub.refl _), rv'.go RdSt.keeps hbel hsu (Sub.refl _)⟩, (by have hy := Blk.made (wr.alloc (.cells #[.int .i64 k, .string s, .int .i64 k1, .int .i64 n1, .string s1, .slice A1 m1 p1, .int .i64 k2, .int .i64 n2, .string s2, .slice A2 m2 p2, .slice A3 body.length p3, .slice A4 els.length p4] 82)) [.int .i64 k, .string noS, .int .i64 0, .int .i64 0, .string noS, .slice none 0 0, .int .i64 0, .int .i64 0, .string noS, .slice none 0 0, .slice none 0 0, .slice none 0 0] 82 (base := w.heap.size) (Nat.le_trans hwr hbel1.size); rw [World.size_alloc] at hy; exact hy), Nat.lt_succ_self _, HS.out⟩
   go_upto_region 6 with (fail)
   clear e0 e1 e2 e3 e4 e5 e6 e7 e8 e9 e10 e11 hcell hrd hcl ra rb rv rv' rva rvb hsame hbel hbel1 hsu hmem hb hb0
   have hWz : ((((wr.alloc (.cells #[.int .i64 k, .string s, .int .i64 k1, .int .i64 n1, .string s1, .slice A1 m1 p1, .int .i64 k2, .int .i64 n2, .string s2, .slice A2 m2 p2, .slice A3 body.length p3, .slice A4 els.length p4] 82))).alloc (.cells #[.int .i64 k, .string ⟨#[]⟩, .int .i64 0, .int .i64 0, .string ⟨#[]⟩, .slice none 0 0, .int .i64 0, .int .i64 0, .string ⟨#[]⟩, .slice none 0 0, .slice none 0 0, .slice none 0 0] 82))).heap.size = wr.heap.size + 1 + 1 := by simp
   generalize (((wr.alloc (.cells #[.int .i64 k, .string s, .int .i64 k1, .int .i64 n1, .string s1, .slice A1 m1 p1, .int .i64 k2, .int .i64 n2, .string s2, .slice A2 m2 p2, .slice A3 body.length p3, .slice A4 els.length p4] 82))).alloc (.cells #[.int .i64 k, .string ⟨#[]⟩, .int .i64 0, .int .i64 0, .string ⟨#[]⟩, .slice none 0 0, .int .i64 0, .int .i64 0, .string ⟨#[]⟩, .slice none 0 0, .slice none 0 0, .slice none 0 0] 82)) = W at *
   obtain ⟨d, hd⟩ : ∃ d, d = wr.heap.size := ⟨_, rfl⟩
   rw [← hd] at hrw
   rw [← hd]
   obtain ⟨y, hy⟩ : ∃ y, y = d + 1 := ⟨_, rfl⟩
   rw [← hy] at hrw
   rw [← hy]
   have HR0 := hid hrw
   have hdy : d < y := by omega
   have hne : d ≠ y := by omega
   have hne' : y ≠ d := by omega
   have hyW : y + 1 ≤ W.heap.size := by omega
   have hyW2 : W.heap.size = y + 1 := by omega
   have hyy : y < y + 1 := by omega
   have hwd : w.heap.size ≤ d := by omega
   have c1 := hrw.rn.bd.cell 1 _ rfl
   have hld := hrw.rn.bd.lt
   have HYW := hid hyW2
   have HP := hid hP
   clear hrw HN HO HB HV hd hy hWz hX hXl hyW2
   have HVN := hid (show vN M1 = (⟨#[118]⟩ : ByteArray) ++ ⟨(Lib.itoa (M1 : Int)).toArray⟩ from by
    unfold vN
    apply ByteArray.ext
    rw [ByteArray.data_append]
    simp)
   have HIT := hid (itoa_n (M1 : Int) (by omega) (by omega) W.drew ((HPW.out _ HR0.out.be).go (Below.refl _ _).drew))
   have hvs := vN_size M1 (by omega)
   have hsz : (⟨(Lib.itoa (M1 : Int)).toArray⟩ : ByteArray).size ≤ 29 := by
    have := hvs
    rw [HVN.out, ByteArray.size_append] at this
    have h1 : (⟨#[118]⟩ : ByteArray).size = 1 := rfl
    omega
   generalize (⟨(Lib.itoa (M1 : Int)).toArray⟩ : ByteArray) = ys at HVN HIT hsz
   have hy1 : 1 + ys.size ≤ 9223372036854775807 := by omega
   have hyn : ¬ (9223372036854775807 < 1 + ys.size) := by omega
   refine wp_region_pre 8 (S := (fun w' => Stay W w')) (by kernel_rfl) (by kernel_rfl) (Stay.mk (Kept.start _)) (fun hHeld => ?_)
   simp only [List.take_succ_cons, List.take_zero]
   have hst0 : Stay W W.drew := Stay.mk (Kept.start _)
   refine tkA 0 22 ?_
   refine tkA 1 23 ?_
   refine tkA 2 24 ?_
   refine tkA 7 29 ?_
   (try simp only [Act.put, List.setIfInBounds_toArray, List.set_cons_zero, List.set_cons_succ])
   refine wpAnyH_ready (rs := [3]) (by kernel_rfl) (by simp) ?_
   refine AllReadyH.cons rfl (fun K hK => ?_) AllReadyH.nil
   go_simp
   refine HIT.out.mono ?_
   rintro e wa ⟨rfl, hb1⟩
   have hst1 : Stay W wa := Stay.step hb1 hst0
   refine hK.out _ _ ?_ (fun hHeld => ?_)
   ·exact hst1
   clear hK K
   refine tkA 4 26 ?_
   refine tkA 5 27 ?_
   (try simp only [Act.put, List.setIfInBounds_toArray, List.set_cons_zero, List.set_cons_succ])
   refine wpAnyH_ready (rs := [6]) (by kernel_rfl) (by simp) ?_
   refine AllReadyH.cons rfl (fun K hK => ?_) AllReadyH.nil
   go_simp
   skip
   refine hK.out _ _ ?_ (fun hHeld => ?_)
   ·exact Stay.mk (Kept.alloc (Kept.here hst1) _)
   clear hK K
   (try simp only [Act.put, List.setIfInBounds_toArray, List.set_cons_zero, List.set_cons_succ])
   refine wpAnyH_done (by kernel_rfl) ?_ _
   unfold QPre
   simp only [List.drop_succ_cons, List.drop_zero]
   rw [← HVN.out]
   clear hst0 hHeld hb1 c1 hld HIT hy1 hyn
   have hokv : okS (vN M1) := by unfold okS; omega
   have hWa := hst1.size
   have hbA : Below W.heap.size W (wa.alloc (.cells #[.string s, .string (vN M1)] 89)) := hst1.below.alloc hWa _
   have HLO := hid (own_lit (E := 89) (base := W.heap.size) (S := Nowhere) (enc := encP) (ok := okP) wa (s, vN M1) rfl ⟨HOKs.out, hokv⟩ hWa)
   have HLO2 := hid (show OwnL (Flat encP okP) 2 89 (wa.alloc (.cells #[.string s, .string (vN M1)] 89)) W.heap.size Nowhere [(s, vN M1)] (.slice (some ⟨wa.heap.size, 0, none⟩) 1 1) from HLO.out)
   have HA := hid (HR0.out.below hbA)
   have HBA := hid hbA
   have hgw : (wa.alloc (.cells #[.string s, .string (vN M1)] 89)).heap.size = wa.heap.size + 1 := by simp
   obtain ⟨ga, hga⟩ : ∃ ga, ga = wa.heap.size := ⟨_, rfl⟩
   rw [← hga] at HLO2 hgw hWa ⊢
   clear hst1 HLO hbA hga
   generalize wa.alloc (.cells #[.string s, .string (vN M1)] 89) = W6 at *
   obtain ⟨Tn, hTn, rTn⟩ := HA.out.nr
   obtain ⟨An, cn, rfl, -⟩ := rTn.form
   have RTN := hid (rTn.bare Nowhere)
   clear hTn rTn
   go_wp2_with (at_builtin; refine wpList_append_list rfl _ _ 86 rfl i1 _ Tryz.underlying86 hj hy0 hy1' hy2 rfl (by decide) Flat.keeps HLO2.out RTN.out rfl rfl (Sub.nowhere _) (Sub.nowhere _) not_nowhere oneP ?c3 ?c4 ?c5 ?_)
   case c3 => unfold maxLen; (try simp only [List.length_singleton]); omega
   case c4 => (try simp only [List.length_singleton]); omega
   try (case c5 => omega)
   intro v7 w7 ho7 hg7 hn7
   have hb7 : Below W.heap.size W w7 := HBA.out.trans ((But.of_grown hg7).below (B := W.heap.size) (by omega) (fun k hk => by have hk : some ga = some k := hk; injection hk with hk; omega))
   have HR1 := hid (HR0.out.below hb7)
   have rd7 := ho7.toRdB (bytes := 32) (S' := fun k => v7.ownBlock = some k) Flat.keeps (by simp; omega) (Sub.nowhere _) (fun k hk => hk)
   have hlt7 := ho7.lt
   have hy7 : y + 1 ≤ w7.heap.size := Nat.le_trans hyW hb7.size
   have NM7 := hid (show NmY y u8 w7 ((s, vN M1) :: E1) v7 from ⟨_, fun k hk => ⟨(hlt7 k hk).2, fun e => by have h1 := (HR1.out.hv k e).2; have h2 := (hlt7 k hk).1; omega, by have h2 := (hlt7 k hk).1; omega⟩, rd7⟩)
   obtain ⟨Aq, kq, hv7, -⟩ := rd7.form
   subst hv7
   obtain ⟨bm, om, cs7, rfl, hbm, hcs7, hcc7, rfl, -⟩ := rd7.at_ (q := 0) (by simp)
   have mm1 := hcc7 1 _ rfl
   rw [show om + (0 * 2 + 1) = om + 1 by omega] at mm1
   have hbm7 := (hlt7 _ hbm).2
   have hbmy : bm ≠ y := by have h2 := (hlt7 _ hbm).1; omega
   obtain ⟨ne, hne9⟩ : ∃ ne, ne = ((s, vN M1) :: E1).length := ⟨_, rfl⟩
   have hnp : 0 < ne := by rw [hne9]; simp
   have hni : (0 : Int) < (ne : Int) := by omega
   rw [← hne9] at NM7 ⊢
   have HNS := hid (show ¬ S y from fun h => by have := HS.out _ h; unfold Upto at this; omega)
   have HYM := hid trivial
   clear ho7 hg7 hn7 hb7 rd7 hlt7 hcc7 hcs7 hbm hne9 HLO2 RTN HA HBA HR0 hWa hgw
   go_upto_region 7 with (fail)
   have c0 := HR1.out.rn.bd.cell 0 _ rfl
   have hld0 := HR1.out.rn.bd.lt
   by_cases h1 : k = 1
   ·subst h1
    have HE := hid (show renP (l.take (q + 1)) V m = (O1 ++ [.mk 1 (vN M1) (renE E1 a) exZ [] []], (s, vN M1) :: E1, M1 + 1) by rw [htk, renP_snoc, ← hP, stepR, renS_let (.inl rfl)])
    have c2 := HR1.out.rn.bd.cell 2 _ rfl
    have c3 := HR1.out.rn.bd.cell 3 _ rfl
    have c4 := HR1.out.rn.bd.cell 4 _ rfl
    have c5 := HR1.out.rn.bd.cell 5 _ rfl
    have hld := HR1.out.rn.bd.lt
    have hly := HR1.out.yb.lt
    have hwm : IntKind.i64.wrap ((M1 : Int) + 1) = (M1 : Int) + 1 := IntWalk.i64_in _ (by omega)
    have hwm2 : wrap64 ((M1 : Int) + 1) = (M1 : Int) + 1 := IntWalk.wrap64_in _ (by omega)
    go_upto_region 10 with (fail)
    have HR1d := hid (HR1.out.below (Below.refl _ _).drew)
    refine wp_region_pre 16 (S := (fun w' => StayX y w7 w')) (by kernel_rfl) (by kernel_rfl) (StayX.of_stay (Stay.mk (Kept.start _))) (fun hHeld => ?_)
    simp only [List.take_succ_cons, List.take_zero]
    refine tkA 0 36 ?_
    refine tkA 1 37 ?_
    refine tkA 2 38 ?_
    refine tkA 4 40 ?_
    refine tkA 5 41 ?_
    refine tkA 6 42 ?_
    refine tkA 7 43 ?_
    refine tkA 8 44 ?_
    refine tkA 9 45 ?_
    refine tkA 10 46 ?_
    (try simp only [Act.put, List.setIfInBounds_toArray, List.set_cons_zero, List.set_cons_succ])
    clear hwm hwm2
    refine wpAnyH_ready (rs := [3]) (by kernel_rfl) (by simp) ?_
    refine AllReadyH.cons rfl (fun K hK => ?_) AllReadyH.nil
    go_simp
    refine (lx_all E1 a w7.drew S _ _ _ HR1d.out.nW HR1d.out.rn.ra HR1d.out.upto HR1d.out.nr.canon).mono ?_
    rintro e w1 ⟨U1, rfl, hu1, hb1⟩
    have hst1 : StayX y w7 w1 := StayX.of_stay (Stay.step hb1 (Stay.mk (Kept.start _)))
    have HR2 := hid (HR1d.out.below hb1)
    have X1 : FrP (y + 1) S w1 (renE E1 a) U1 := FrP.of hu1 hy7 HR2.out.nW
    obtain ⟨A5, n5, rfl⟩ := X1.form
    refine hK.out _ _ ?_ (fun hHeld => ?_)
    ·exact hst1
    clear hK K
    (try simp only [Act.put, List.setIfInBounds_toArray, List.set_cons_zero, List.set_cons_succ])
    clear hld hly c2 c3 c4 c5  
    have e2 := HR2.out.yb.cell 2 _ rfl
    have e3 := HR2.out.yb.cell 3 _ rfl
    have e4 := HR2.out.yb.cell 4 _ rfl
    have e5 := HR2.out.yb.cell 5 _ rfl
    have g2 := HR2.out.yb.fr 2
    have g3 := HR2.out.yb.fr 3
    have g4 := HR2.out.yb.fr 4
    have g5 := HR2.out.yb.fr 5
    have hld := HR2.out.rn.bd.lt
    have hly := HR2.out.yb.lt
    refine tkA 11 47 ?_
    (try simp only [Act.put, List.setIfInBounds_toArray, List.set_cons_zero, List.set_cons_succ])
    refine wpAnyH_ready (rs := [12]) (by kernel_rfl) (by simp) ?_
    refine AllReadyH.cons rfl (fun K hK => ?_) AllReadyH.nil
    go_simp
    skip
    refine hK.out _ _ ?_ (fun hHeld => ?_)
    ·exact (((hst1.set _).set _).set _).set _
    clear hK K
    (try simp only [Act.put, List.setIfInBounds_toArray, List.set_cons_zero, List.set_cons_succ])
    clear hld hly  e2 e3 e4 e5 g2 g3 g4 g5
    have HR3 := hid (HR2.out.setA (.int .i64 (renE E1 a).kind) (.int .i64 (renE E1 a).num) (.string (renE E1 a).name) (.slice A5 (renE E1 a).args.length n5))
    have X3 := X1.setA HNS.out hyy 2 (.int .i64 (renE E1 a).kind) (.int .i64 (renE E1 a).num) (.string (renE E1 a).name) (.slice A5 (renE E1 a).args.length n5)
    have hst3 := (((hst1.set (o := 2) (.int .i64 (renE E1 a).kind)).set (o := 3) (.int .i64 (renE E1 a).num)).set (o := 4) (.string (renE E1 a).name)).set (o := 5) (.slice A5 (renE E1 a).args.length n5)
    have HB7 := hid (hb1.trans (Below.refl _ _))
    clear X1 hu1 hst1
    generalize ((((w1.setCell ⟨y, 2, none⟩ (.int .i64 (renE E1 a).kind)).setCell ⟨y, 3, none⟩ (.int .i64 (renE E1 a).num)).setCell ⟨y, 4, none⟩ (.string (renE E1 a).name)).setCell ⟨y, 5, none⟩ (.slice A5 (renE E1 a).args.length n5)) = W3 at *
    have e1 := HR3.out.yb.cell 1 _ rfl
    have g1 := HR3.out.yb.fr 1
    have hld := HR3.out.rn.bd.lt
    have hly := HR3.out.yb.lt
    refine tkA 13 48 ?_
    (try simp only [Act.put, List.setIfInBounds_toArray, List.set_cons_zero, List.set_cons_succ])
    refine wpAnyH_ready (rs := [14]) (by kernel_rfl) (by simp) ?_
    refine AllReadyH.cons rfl (fun K hK => ?_) AllReadyH.nil
    go_simp
    skip
    refine hK.out _ _ ?_ (fun hHeld => ?_)
    ·exact hst3.set _
    clear hK K
    refine tkA 15 1 ?_
    (try simp only [Act.put, List.setIfInBounds_toArray, List.set_cons_zero, List.set_cons_succ])
    refine wpAnyH_done (by kernel_rfl) ?_ _
    unfold QPre
    simp only [List.drop_succ_cons, List.drop_zero]
    clear hld hly  e1 g1
    have HR4 := hid (HR3.out.setN (.string (vN M1)))
    have X4 := X3.set1 HNS.out hyy (o := 1) (.string (vN M1))
    have NM4 := hid (NM7.out.stx (HYM.out) (hst3.set (o := 1) (.string (vN M1))))
    clear X3 hst3 hHeld hb1
    go_upto_region 23 with (fail)
    generalize W3.setCell ⟨y, 1, none⟩ (.string (vN M1)) = W4 at *
    have e0 := HR4.out.yb.cell 0 _ rfl
    have e1 := HR4.out.yb.cell 1 _ rfl
    have e2 := HR4.out.yb.cell 2 _ rfl
    have e3 := HR4.out.yb.cell 3 _ rfl
    have e4 := HR4.out.yb.cell 4 _ rfl
    have e5 := HR4.out.yb.cell 5 _ rfl
    have e6 := HR4.out.yb.cell 6 _ rfl
    have e7 := HR4.out.yb.cell 7 _ rfl
    have e8 := HR4.out.yb.cell 8 _ rfl
    have e9 := HR4.out.yb.cell 9 _ rfl
    have e10 := HR4.out.yb.cell 10 _ rfl
    have e11 := HR4.out.yb.cell 11 _ rfl
    have g0 := HR4.out.yb.fr 0
    have g1 := HR4.out.yb.fr 1
    have g2 := HR4.out.yb.fr 2
    have g3 := HR4.out.yb.fr 3
    have g4 := HR4.out.yb.fr 4
    have g5 := HR4.out.yb.fr 5
    have g6 := HR4.out.yb.fr 6
    have g7 := HR4.out.yb.fr 7
    have g8 := HR4.out.yb.fr 8
    have g9 := HR4.out.yb.fr 9
    have g10 := HR4.out.yb.fr 10
    have g11 := HR4.out.yb.fr 11
    have hld := HR4.out.rn.bd.lt
    have hly := HR4.out.yb.lt
    have TL := hid (show ∃ T, Sub T (Plus S (y + 1) W4.heap.size) ∧ Sub T (Upto W4.heap.size) ∧ RdSt W4 T (.mk 1 (vN M1) (renE E1 a) exZ [] []) [.int .i64 1, .string (vN M1), .int .i64 (renE E1 a).kind, .int .i64 (renE E1 a).num, .string (renE E1 a).name, .slice A5 (renE E1 a).args.length n5, .int .i64 0, .int .i64 0, .string noS, .slice none 0 0, .slice none 0 0, .slice none 0 0] from tld_cells hk (by have := vN_size M1 (by omega); unfold okS; omega) X4 (FrP.zero _ _ _) (FrQ.nil _ _ _) (FrQ.nil _ _ _))
    have bel : Below W4.heap.size W4 (W4.alloc (.cells #[.int .i64 1, .string (vN M1), .int .i64 (renE E1 a).kind, .int .i64 (renE E1 a).num, .string (renE E1 a).name, .slice A5 (renE E1 a).args.length n5, .int .i64 0, .int .i64 0, .string noS, .slice none 0 0, .slice none 0 0, .slice none 0 0] 82)) := (Below.refl _ _).alloc (Nat.le_refl _) _
    obtain ⟨T9, nT9, mT9, rT9⟩ := TL.out
    have hyw : y + 1 ≤ W4.heap.size := hly
    have HL9 := hid (HR4.out.below bel)
    have HOW := hid (HL9.out.ow.sub (Sub.left (Plus S w.heap.size d) T9))
    have HXW := hid (rdG_one (bytes := 184) (size := 12) (rd := fun w' _ e cs => RdSt w' T9 e cs) (S := Is W4.heap.size) (g := W4.heap.size) rfl (Blk.made W4 [.int .i64 1, .string (vN M1), .int .i64 (renE E1 a).kind, .int .i64 (renE E1 a).num, .string (renE E1 a).name, .slice A5 (renE E1 a).args.length n5, .int .i64 0, .int .i64 0, .string noS, .slice none 0 0, .slice none 0 0, .slice none 0 0] 82 (base := 0) (Nat.zero_le _)).cell (RdSt.keeps _ _ _ _ _ _ (Sub.refl _) (same_of_below bel mT9) rT9) rfl (by decide))
    have HU2 := hid (show Sub T9 (Upto (W4.alloc (.cells #[.int .i64 1, .string (vN M1), .int .i64 (renE E1 a).kind, .int .i64 (renE E1 a).num, .string (renE E1 a).name, .slice A5 (renE E1 a).args.length n5, .int .i64 0, .int .i64 0, .string noS, .slice none 0 0, .slice none 0 0, .slice none 0 0] 82)).heap.size) from mT9.trans (Sub.upto bel.size))
    have HU3 := hid (show ∀ k, u8.ownBlock = some k → ¬ T9 k from fun k hk h9 => by
     have h1 := HR4.out.hv k hk
     rcases nT9 k h9 with h2 | h2
     ·have := HS.out k h2; unfold Upto at this; omega
     ·omega)
    have HNM := hid (show NmR2 (W4.alloc (.cells #[.int .i64 1, .string (vN M1), .int .i64 (renE E1 a).kind, .int .i64 (renE E1 a).num, .string (renE E1 a).name, .slice A5 (renE E1 a).args.length n5, .int .i64 0, .int .i64 0, .string noS, .slice none 0 0, .slice none 0 0, .slice none 0 0] 82)).heap.size u8 (W4.alloc (.cells #[.int .i64 1, .string (vN M1), .int .i64 (renE E1 a).kind, .int .i64 (renE E1 a).num, .string (renE E1 a).name, .slice A5 (renE E1 a).args.length n5, .int .i64 0, .int .i64 0, .string noS, .slice none 0 0, .slice none 0 0, .slice none 0 0] 82)) _ _ from by
     obtain ⟨T, hT, r⟩ := NM4.out
     exact ⟨T, fun k hk => ⟨Nat.lt_of_lt_of_le (hT k hk).1 (Nat.le_trans (by omega) bel.size), (hT k hk).2⟩, r.go Flat.keeps bel (fun k hk => by have h1 := (hT k hk).1; unfold Upto; omega) (Sub.refl _)⟩)
    have HN9 := hid (show Sub T9 (Plus S w.heap.size (W4.alloc (.cells #[.int .i64 1, .string (vN M1), .int .i64 (renE E1 a).kind, .int .i64 (renE E1 a).num, .string (renE E1 a).name, .slice A5 (renE E1 a).args.length n5, .int .i64 0, .int .i64 0, .string noS, .slice none 0 0, .slice none 0 0, .slice none 0 0] 82)).heap.size) from nT9.trans (Sub.plus_mono (by omega) bel.size))
    have HSZ := hid (show w.heap.size ≤ (W4.alloc (.cells #[.int .i64 1, .string (vN M1), .int .i64 (renE E1 a).kind, .int .i64 (renE E1 a).num, .string (renE E1 a).name, .slice A5 (renE E1 a).args.length n5, .int .i64 0, .int .i64 0, .string noS, .slice none 0 0, .slice none 0 0, .slice none 0 0] 82)).heap.size from Nat.le_trans (by omega) bel.size)
    have hO1 : O1.length + 1 ≤ 67108865 := by omega
    clear nT9 mT9 rT9 bel TL X4
    go_wp2_with (at_builtin; refine wpList_append_list rfl _ _ 31 rfl i0 _ Tryz.underlying31 hi hz0 hz1' hz2 rfl (by decide) RdSt.keeps HOW.out HXW.out rfl rfl (Sub.right _ _) HU2.out HU3.out oneSt ?c3 ?c4 ?c5 ?_)
    case c3 => unfold maxLen; (try simp only [List.length_singleton]); omega
    case c4 => (try simp only [List.length_singleton]); omega
    try (case c5 => first | exact HSZ.out | (have h9 := HSZ.out; rw [World.size_alloc] at h9; exact h9))
    intro v9 w9 ho9 hg9 hn9
    have HD := hid (HL9.out.done hg9 hg9.size (by rw [World.size_alloc]; exact hn9) ho9 HN9.out HNM.out)
    clear ho9 hg9 hn9 hO1 hld hly  e0 e1 e2 e3 e4 e5 e6 e7 e8 e9 e10 e11 g0 g1 g2 g3 g4 g5 g6 g7 g8 g9 g10 g11
    go_wp2_with fail
    go_roundw
    case rel => exact ⟨q + 1, by omega, by go_num, by first | (rw [HE.out]; done) | (rw [HE.out]; go_num), hid (by rw [HE.out]; exact HD.out.2.1), hid (by rw [HE.out]; exact HD.out.1), hid HD.out.2.2, hid (fun k hk => HD.out.1.lt k hk)⟩
    case measure => simp [intOf]; omega
   by_cases h2 : k = 2
   ·subst h2
    have HE := hid (show renP (l.take (q + 1)) V m = (O1 ++ [.mk 2 (vN M1) (renE E1 a) exZ [] []], (s, vN M1) :: E1, M1 + 1) by rw [htk, renP_snoc, ← hP, stepR, renS_let (.inr rfl)])
    have c2 := HR1.out.rn.bd.cell 2 _ rfl
    have c3 := HR1.out.rn.bd.cell 3 _ rfl
    have c4 := HR1.out.rn.bd.cell 4 _ rfl
    have c5 := HR1.out.rn.bd.cell 5 _ rfl
    have hld := HR1.out.rn.bd.lt
    have hly := HR1.out.yb.lt
    have hwm : IntKind.i64.wrap ((M1 : Int) + 1) = (M1 : Int) + 1 := IntWalk.i64_in _ (by omega)
    have hwm2 : wrap64 ((M1 : Int) + 1) = (M1 : Int) + 1 := IntWalk.wrap64_in _ (by omega)
    go_upto_region 10 with (fail)
    have HR1d := hid (HR1.out.below (Below.refl _ _).drew)
    refine wp_region_pre 16 (S := (fun w' => StayX y w7 w')) (by kernel_rfl) (by kernel_rfl) (StayX.of_stay (Stay.mk (Kept.start _))) (fun hHeld => ?_)
    simp only [List.take_succ_cons, List.take_zero]
    refine tkA 0 36 ?_
    refine tkA 1 37 ?_
    refine tkA 2 38 ?_
    refine tkA 4 40 ?_
    refine tkA 5 41 ?_
    refine tkA 6 42 ?_
    refine tkA 7 43 ?_
    refine tkA 8 44 ?_
    refine tkA 9 45 ?_
    refine tkA 10 46 ?_
    (try simp only [Act.put, List.setIfInBounds_toArray, List.set_cons_zero, List.set_cons_succ])
    clear hwm hwm2
    refine wpAnyH_ready (rs := [3]) (by kernel_rfl) (by simp) ?_
    refine AllReadyH.cons rfl (fun K hK => ?_) AllReadyH.nil
    go_simp
    refine (lx_all E1 a w7.drew S _ _ _ HR1d.out.nW HR1d.out.rn.ra HR1d.out.upto HR1d.out.nr.canon).mono ?_
    rintro e w1 ⟨U1, rfl, hu1, hb1⟩
    have hst1 : StayX y w7 w1 := StayX.of_stay (Stay.step hb1 (Stay.mk (Kept.start _)))
    have HR2 := hid (HR1d.out.below hb1)
    have X1 : FrP (y + 1) S w1 (renE E1 a) U1 := FrP.of hu1 hy7 HR2.out.nW
    obtain ⟨A5, n5, rfl⟩ := X1.form
    refine hK.out _ _ ?_ (fun hHeld => ?_)
    ·exact hst1
    clear hK K
    (try simp only [Act.put, List.setIfInBounds_toArray, List.set_cons_zero, List.set_cons_succ])
    clear hld hly c2 c3 c4 c5  
    have e2 := HR2.out.yb.cell 2 _ rfl
    have e3 := HR2.out.yb.cell 3 _ rfl
    have e4 := HR2.out.yb.cell 4 _ rfl
    have e5 := HR2.out.yb.cell 5 _ rfl
    have g2 := HR2.out.yb.fr 2
    have g3 := HR2.out.yb.fr 3
    have g4 := HR2.out.yb.fr 4
    have g5 := HR2.out.yb.fr 5
    have hld := HR2.out.rn.bd.lt
    have hly := HR2.out.yb.lt
    refine tkA 11 47 ?_
    (try simp only [Act.put, List.setIfInBounds_toArray, List.set_cons_zero, List.set_cons_succ])
    refine wpAnyH_ready (rs := [12]) (by kernel_rfl) (by simp) ?_
    refine AllReadyH.cons rfl (fun K hK => ?_) AllReadyH.nil
    go_simp
    skip
    refine hK.out _ _ ?_ (fun hHeld => ?_)
    ·exact (((hst1.set _).set _).set _).set _
    clear hK K
    (try simp only [Act.put, List.setIfInBounds_toArray, List.set_cons_zero, List.set_cons_succ])
    clear hld hly  e2 e3 e4 e5 g2 g3 g4 g5
    have HR3 := hid (HR2.out.setA (.int .i64 (renE E1 a).kind) (.int .i64 (renE E1 a).num) (.string (renE E1 a).name) (.slice A5 (renE E1 a).args.length n5))
    have X3 := X1.setA HNS.out hyy 2 (.int .i64 (renE E1 a).kind) (.int .i64 (renE E1 a).num) (.string (renE E1 a).name) (.slice A5 (renE E1 a).args.length n5)
    have hst3 := (((hst1.set (o := 2) (.int .i64 (renE E1 a).kind)).set (o := 3) (.int .i64 (renE E1 a).num)).set (o := 4) (.string (renE E1 a).name)).set (o := 5) (.slice A5 (renE E1 a).args.length n5)
    have HB7 := hid (hb1.trans (Below.refl _ _))
    clear X1 hu1 hst1
    generalize ((((w1.setCell ⟨y, 2, none⟩ (.int .i64 (renE E1 a).kind)).setCell ⟨y, 3, none⟩ (.int .i64 (renE E1 a).num)).setCell ⟨y, 4, none⟩ (.string (renE E1 a).name)).setCell ⟨y, 5, none⟩ (.slice A5 (renE E1 a).args.length n5)) = W3 at *
    have e1 := HR3.out.yb.cell 1 _ rfl
    have g1 := HR3.out.yb.fr 1
    have hld := HR3.out.rn.bd.lt
    have hly := HR3.out.yb.lt
    refine tkA 13 48 ?_
    (try simp only [Act.put, List.setIfInBounds_toArray, List.set_cons_zero, List.set_cons_succ])
    refine wpAnyH_ready (rs := [14]) (by kernel_rfl) (by simp) ?_
    refine AllReadyH.cons rfl (fun K hK => ?_) AllReadyH.nil
    go_simp
    skip
    refine hK.out _ _ ?_ (fun hHeld => ?_)
    ·exact hst3.set _
    clear hK K
    refine tkA 15 1 ?_
    (try simp only [Act.put, List.setIfInBounds_toArray, List.set_cons_zero, List.set_cons_succ])
    refine wpAnyH_done (by kernel_rfl) ?_ _
    unfold QPre
    simp only [List.drop_succ_cons, List.drop_zero]
    clear hld hly  e1 g1
    have HR4 := hid (HR3.out.setN (.string (vN M1)))
    have X4 := X3.set1 HNS.out hyy (o := 1) (.string (vN M1))
    have NM4 := hid (NM7.out.stx (HYM.out) (hst3.set (o := 1) (.string (vN M1))))
    clear X3 hst3 hHeld hb1
    go_upto_region 23 with (fail)
    generalize W3.setCell ⟨y, 1, none⟩ (.string (vN M1)) = W4 at *
    have e0 := HR4.out.yb.cell 0 _ rfl
    have e1 := HR4.out.yb.cell 1 _ rfl
    have e2 := HR4.out.yb.cell 2 _ rfl
    have e3 := HR4.out.yb.cell 3 _ rfl
    have e4 := HR4.out.yb.cell 4 _ rfl
    have e5 := HR4.out.yb.cell 5 _ rfl
    have e6 := HR4.out.yb.cell 6 _ rfl
    have e7 := HR4.out.yb.cell 7 _ rfl
    have e8 := HR4.out.yb.cell 8 _ rfl
    have e9 := HR4.out.yb.cell 9 _ rfl
    have e10 := HR4.out.yb.cell 10 _ rfl
    have e11 := HR4.out.yb.cell 11 _ rfl
    have g0 := HR4.out.yb.fr 0
    have g1 := HR4.out.yb.fr 1
    have g2 := HR4.out.yb.fr 2
    have g3 := HR4.out.yb.fr 3
    have g4 := HR4.out.yb.fr 4
    have g5 := HR4.out.yb.fr 5
    have g6 := HR4.out.yb.fr 6
    have g7 := HR4.out.yb.fr 7
    have g8 := HR4.out.yb.fr 8
    have g9 := HR4.out.yb.fr 9
    have g10 := HR4.out.yb.fr 10
    have g11 := HR4.out.yb.fr 11
    have hld := HR4.out.rn.bd.lt
    have hly := HR4.out.yb.lt
    have TL := hid (show ∃ T, Sub T (Plus S (y + 1) W4.heap.size) ∧ Sub T (Upto W4.heap.size) ∧ RdSt W4 T (.mk 2 (vN M1) (renE E1 a) exZ [] []) [.int .i64 2, .string (vN M1), .int .i64 (renE E1 a).kind, .int .i64 (renE E1 a).num, .string (renE E1 a).name, .slice A5 (renE E1 a).args.length n5, .int .i64 0, .int .i64 0, .string noS, .slice none 0 0, .slice none 0 0, .slice none 0 0] from tld_cells hk (by have := vN_size M1 (by omega); unfold okS; omega) X4 (FrP.zero _ _ _) (FrQ.nil _ _ _) (FrQ.nil _ _ _))
    have bel : Below W4.heap.size W4 (W4.alloc (.cells #[.int .i64 2, .string (vN M1), .int .i64 (renE E1 a).kind, .int .i64 (renE E1 a).num, .string (renE E1 a).name, .slice A5 (renE E1 a).args.length n5, .int .i64 0, .int .i64 0, .string noS, .slice none 0 0, .slice none 0 0, .slice none 0 0] 82)) := (Below.refl _ _).alloc (Nat.le_refl _) _
    obtain ⟨T9, nT9, mT9, rT9⟩ := TL.out
    have hyw : y + 1 ≤ W4.heap.size := hly
    have HL9 := hid (HR4.out.below bel)
    have HOW := hid (HL9.out.ow.sub (Sub.left (Plus S w.heap.size d) T9))
    have HXW := hid (rdG_one (bytes := 184) (size := 12) (rd := fun w' _ e cs => RdSt w' T9 e cs) (S := Is W4.heap.size) (g := W4.heap.size) rfl (Blk.made W4 [.int .i64 2, .string (vN M1), .int .i64 (renE E1 a).kind, .int .i64 (renE E1 a).num, .string (renE E1 a).name, .slice A5 (renE E1 a).args.length n5, .int .i64 0, .int .i64 0, .string noS, .slice none 0 0, .slice none 0 0, .slice none 0 0] 82 (base := 0) (Nat.zero_le _)).cell (RdSt.keeps _ _ _ _ _ _ (Sub.refl _) (same_of_below bel mT9) rT9) rfl (by decide))
    have HU2 := hid (show Sub T9 (Upto (W4.alloc (.cells #[.int .i64 2, .string (vN M1), .int .i64 (renE E1 a).kind, .int .i64 (renE E1 a).num, .string (renE E1 a).name, .slice A5 (renE E1 a).args.length n5, .int .i64 0, .int .i64 0, .string noS, .slice none 0 0, .slice none 0 0, .slice none 0 0] 82)).heap.size) from mT9.trans (Sub.upto bel.size))
    have HU3 := hid (show ∀ k, u8.ownBlock = some k → ¬ T9 k from fun k hk h9 => by
     have h1 := HR4.out.hv k hk
     rcases nT9 k h9 with h2 | h2
     ·have := HS.out k h2; unfold Upto at this; omega
     ·omega)
    have HNM := hid (show NmR2 (W4.alloc (.cells #[.int .i64 2, .string (vN M1), .int .i64 (renE E1 a).kind, .int .i64 (renE E1 a).num, .string (renE E1 a).name, .slice A5 (renE E1 a).args.length n5, .int .i64 0, .int .i64 0, .string noS, .slice none 0 0, .slice none 0 0, .slice none 0 0] 82)).heap.size u8 (W4.alloc (.cells #[.int .i64 2, .string (vN M1), .int .i64 (renE E1 a).kind, .int .i64 (renE E1 a).num, .string (renE E1 a).name, .slice A5 (renE E1 a).args.length n5, .int .i64 0, .int .i64 0, .string noS, .slice none 0 0, .slice none 0 0, .slice none 0 0] 82)) _ _ from by
     obtain ⟨T, hT, r⟩ := NM4.out
     exact ⟨T, fun k hk => ⟨Nat.lt_of_lt_of_le (hT k hk).1 (Nat.le_trans (by omega) bel.size), (hT k hk).2⟩, r.go Flat.keeps bel (fun k hk => by have h1 := (hT k hk).1; unfold Upto; omega) (Sub.refl _)⟩)
    have HN9 := hid (show Sub T9 (Plus S w.heap.size (W4.alloc (.cells #[.int .i64 2, .string (vN M1), .int .i64 (renE E1 a).kind, .int .i64 (renE E1 a).num, .string (renE E1 a).name, .slice A5 (renE E1 a).args.length n5, .int .i64 0, .int .i64 0, .string noS, .slice none 0 0, .slice none 0 0, .slice none 0 0] 82)).heap.size) from nT9.trans (Sub.plus_mono (by omega) bel.size))
    have HSZ := hid (show w.heap.size ≤ (W4.alloc (.cells #[.int .i64 2, .string (vN M1), .int .i64 (renE E1 a).kind, .int .i64 (renE E1 a).num, .string (renE E1 a).name, .slice A5 (renE E1 a).args.length n5, .int .i64 0, .int .i64 0, .string noS, .slice none 0 0, .slice none 0 0, .slice none 0 0] 82)).heap.size from Nat.le_trans (by omega) bel.size)
    have hO1 : O1.length + 1 ≤ 67108865 := by omega
    clear nT9 mT9 rT9 bel TL X4
    go_wp2_with (at_builtin; refine wpList_append_list rfl _ _ 31 rfl i0 _ Tryz.underlying31 hi hz0 hz1' hz2 rfl (by decide) RdSt.keeps HOW.out HXW.out rfl rfl (Sub.right _ _) HU2.out HU3.out oneSt ?c3 ?c4 ?c5 ?_)
    case c3 => unfold maxLen; (try simp only [List.length_singleton]); omega
    case c4 => (try simp only [List.length_singleton]); omega
    try (case c5 => first | exact HSZ.out | (have h9 := HSZ.out; rw [World.size_alloc] at h9; exact h9))
    intro v9 w9 ho9 hg9 hn9
    have HD := hid (HL9.out.done hg9 hg9.size (by rw [World.size_alloc]; exact hn9) ho9 HN9.out HNM.out)
    clear ho9 hg9 hn9 hO1 hld hly  e0 e1 e2 e3 e4 e5 e6 e7 e8 e9 e10 e11 g0 g1 g2 g3 g4 g5 g6 g7 g8 g9 g10 g11
    go_wp2_with fail
    go_roundw
    case rel => exact ⟨q + 1, by omega, by go_num, by first | (rw [HE.out]; done) | (rw [HE.out]; go_num), hid (by rw [HE.out]; exact HD.out.2.1), hid (by rw [HE.out]; exact HD.out.1), hid HD.out.2.2, hid (fun k hk => HD.out.1.lt k hk)⟩
    case measure => simp [intOf]; omega
   by_cases h3 : k = 3
   ·subst h3
    have HE := hid (show renP (l.take (q + 1)) V m = (O1 ++ [.mk 3 noS (renE E1 a) (renE E1 b) [] []], E1, M1) by rw [htk, renP_snoc, ← hP, stepR, renS_store])
    have c2 := HR1.out.rn.bd.cell 2 _ rfl
    have c3 := HR1.out.rn.bd.cell 3 _ rfl
    have c4 := HR1.out.rn.bd.cell 4 _ rfl
    have c5 := HR1.out.rn.bd.cell 5 _ rfl
    have c6 := HR1.out.rn.bd.cell 6 _ rfl
    have c7 := HR1.out.rn.bd.cell 7 _ rfl
    have c8 := HR1.out.rn.bd.cell 8 _ rfl
    have c9 := HR1.out.rn.bd.cell 9 _ rfl
    have hld := HR1.out.rn.bd.lt
    have hly := HR1.out.yb.lt
    go_upto_region 12 with (fail)
    have HR1d := hid (HR1.out.below (Below.refl _ _).drew)
    refine wp_region_pre 9 (S := (fun w' => Stay w7 w')) (by kernel_rfl) (by kernel_rfl) (Stay.mk (Kept.start _)) (fun hHeld => ?_)
    simp only [List.take_succ_cons, List.take_zero]
    refine tkA 0 51 ?_
    refine tkA 1 52 ?_
    refine tkA 2 53 ?_
    refine tkA 4 55 ?_
    refine tkA 5 56 ?_
    refine tkA 6 57 ?_
    (try simp only [Act.put, List.setIfInBounds_toArray, List.set_cons_zero, List.set_cons_succ])
    refine wpAnyH_ready (rs := [3]) (by kernel_rfl) (by simp) ?_
    refine AllReadyH.cons rfl (fun K hK => ?_) AllReadyH.nil
    go_simp
    refine (lx_all E1 a w7.drew S _ _ _ HR1d.out.nW HR1d.out.rn.ra HR1d.out.upto HR1d.out.nr.canon).mono ?_
    rintro e w1 ⟨U1, rfl, hu1, hb1⟩
    have hst1 : Stay w7 w1 := Stay.step hb1 hHeld
    have HR2 := hid (HR1d.out.below hb1)
    have X1 : FrP (y + 1) S w1 (renE E1 a) U1 := FrP.of hu1 hy7 HR2.out.nW
    obtain ⟨A5, n5, rfl⟩ := X1.form
    refine hK.out _ _ ?_ (fun hHeld => ?_)
    ·exact hst1
    clear hK K
    refine tkA 8 59 ?_
    (try simp only [Act.put, List.setIfInBounds_toArray, List.set_cons_zero, List.set_cons_succ])
    refine wpAnyH_ready (rs := [7]) (by kernel_rfl) (by simp) ?_
    refine AllReadyH.cons rfl (fun K hK => ?_) AllReadyH.nil
    go_simp
    refine (lx_all E1 b w1 S _ _ _ HR2.out.nW HR2.out.rn.rb HR2.out.upto HR2.out.nr.canon).mono ?_
    rintro e w2 ⟨U2, rfl, hu2, hb2⟩
    have hst2 : Stay w7 w2 := Stay.step hb2 hst1
    have HR3 := hid (HR2.out.below hb2)
    have X2 : FrP (y + 1) S w2 (renE E1 b) U2 := FrP.of hu2 (Nat.le_trans hy7 hb1.size) HR3.out.nW
    have X1' := FrP.via hb2 X1
    obtain ⟨A6, n6, rfl⟩ := X2.form
    refine hK.out _ _ ?_ (fun hHeld => ?_)
    ·exact hst2
    clear hK K
    (try simp only [Act.put, List.setIfInBounds_toArray, List.set_cons_zero, List.set_cons_succ])
    refine wpAnyH_done (by kernel_rfl) ?_ _
    unfold QPre
    simp only [List.drop_succ_cons, List.drop_zero]
    clear hu1 hu2 hst1 hst2 hHeld X1 HR1d hb1 hb2
    clear hld hly c2 c3 c4 c5 c6 c7 c8 c9  
    have e2 := HR3.out.yb.cell 2 _ rfl
    have e3 := HR3.out.yb.cell 3 _ rfl
    have e4 := HR3.out.yb.cell 4 _ rfl
    have e5 := HR3.out.yb.cell 5 _ rfl
    have e6 := HR3.out.yb.cell 6 _ rfl
    have e7 := HR3.out.yb.cell 7 _ rfl
    have e8 := HR3.out.yb.cell 8 _ rfl
    have e9 := HR3.out.yb.cell 9 _ rfl
    have g2 := HR3.out.yb.fr 2
    have g3 := HR3.out.yb.fr 3
    have g4 := HR3.out.yb.fr 4
    have g5 := HR3.out.yb.fr 5
    have g6 := HR3.out.yb.fr 6
    have g7 := HR3.out.yb.fr 7
    have g8 := HR3.out.yb.fr 8
    have g9 := HR3.out.yb.fr 9
    have hld := HR3.out.rn.bd.lt
    have hly := HR3.out.yb.lt
    have HR4 := hid ((HR3.out.setA (.int .i64 (renE E1 a).kind) (.int .i64 (renE E1 a).num) (.string (renE E1 a).name) (.slice A5 (renE E1 a).args.length n5)).setB (.int .i64 (renE E1 b).kind) (.int .i64 (renE E1 b).num) (.string (renE E1 b).name) (.slice A6 (renE E1 b).args.length n6))
    have XA := (X1'.setA HNS.out hyy 2 (.int .i64 (renE E1 a).kind) (.int .i64 (renE E1 a).num) (.string (renE E1 a).name) (.slice A5 (renE E1 a).args.length n5)).setA HNS.out hyy 6 (.int .i64 (renE E1 b).kind) (.int .i64 (renE E1 b).num) (.string (renE E1 b).name) (.slice A6 (renE E1 b).args.length n6)
    have XB := (X2.setA HNS.out hyy 2 (.int .i64 (renE E1 a).kind) (.int .i64 (renE E1 a).num) (.string (renE E1 a).name) (.slice A5 (renE E1 a).args.length n5)).setA HNS.out hyy 6 (.int .i64 (renE E1 b).kind) (.int .i64 (renE E1 b).num) (.string (renE E1 b).name) (.slice A6 (renE E1 b).args.length n6)
    clear X1' X2
    go_upto_region 23 with (fail)
    clear hld hly  e2 e3 e4 e5 e6 e7 e8 e9 g2 g3 g4 g5 g6 g7 g8 g9
    generalize ((((((((w2.setCell ⟨y, 2, none⟩ (.int .i64 (renE E1 a).kind)).setCell ⟨y, 3, none⟩ (.int .i64 (renE E1 a).num)).setCell ⟨y, 4, none⟩ (.string (renE E1 a).name)).setCell ⟨y, 5, none⟩ (.slice A5 (renE E1 a).args.length n5)).setCell ⟨y, 6, none⟩ (.int .i64 (renE E1 b).kind)).setCell ⟨y, 7, none⟩ (.int .i64 (renE E1 b).num)).setCell ⟨y, 8, none⟩ (.string (renE E1 b).name)).setCell ⟨y, 9, none⟩ (.slice A6 (renE E1 b).args.length n6)) = W4 at *
    have e0 := HR4.out.yb.cell 0 _ rfl
    have e1 := HR4.out.yb.cell 1 _ rfl
    have e2 := HR4.out.yb.cell 2 _ rfl
    have e3 := HR4.out.yb.cell 3 _ rfl
    have e4 := HR4.out.yb.cell 4 _ rfl
    have e5 := HR4.out.yb.cell 5 _ rfl
    have e6 := HR4.out.yb.cell 6 _ rfl
    have e7 := HR4.out.yb.cell 7 _ rfl
    have e8 := HR4.out.yb.cell 8 _ rfl
    have e9 := HR4.out.yb.cell 9 _ rfl
    have e10 := HR4.out.yb.cell 10 _ rfl
    have e11 := HR4.out.yb.cell 11 _ rfl
    have g0 := HR4.out.yb.fr 0
    have g1 := HR4.out.yb.fr 1
    have g2 := HR4.out.yb.fr 2
    have g3 := HR4.out.yb.fr 3
    have g4 := HR4.out.yb.fr 4
    have g5 := HR4.out.yb.fr 5
    have g6 := HR4.out.yb.fr 6
    have g7 := HR4.out.yb.fr 7
    have g8 := HR4.out.yb.fr 8
    have g9 := HR4.out.yb.fr 9
    have g10 := HR4.out.yb.fr 10
    have g11 := HR4.out.yb.fr 11
    have hld := HR4.out.rn.bd.lt
    have hly := HR4.out.yb.lt
    have TL := hid (show ∃ T, Sub T (Plus S (y + 1) W4.heap.size) ∧ Sub T (Upto W4.heap.size) ∧ RdSt W4 T (.mk 3 noS (renE E1 a) (renE E1 b) [] []) [.int .i64 3, .string noS, .int .i64 (renE E1 a).kind, .int .i64 (renE E1 a).num, .string (renE E1 a).name, .slice A5 (renE E1 a).args.length n5, .int .i64 (renE E1 b).kind, .int .i64 (renE E1 b).num, .string (renE E1 b).name, .slice A6 (renE E1 b).args.length n6, .slice none 0 0, .slice none 0 0] from tld_cells hk okS_n XA XB (FrQ.nil _ _ _) (FrQ.nil _ _ _))
    have bel : Below W4.heap.size W4 (W4.alloc (.cells #[.int .i64 3, .string noS, .int .i64 (renE E1 a).kind, .int .i64 (renE E1 a).num, .string (renE E1 a).name, .slice A5 (renE E1 a).args.length n5, .int .i64 (renE E1 b).kind, .int .i64 (renE E1 b).num, .string (renE E1 b).name, .slice A6 (renE E1 b).args.length n6, .slice none 0 0, .slice none 0 0] 82)) := (Below.refl _ _).alloc (Nat.le_refl _) _
    obtain ⟨T9, nT9, mT9, rT9⟩ := TL.out
    have hyw : y + 1 ≤ W4.heap.size := hly
    have HL9 := hid (HR4.out.below bel)
    have HOW := hid (HL9.out.ow.sub (Sub.left (Plus S w.heap.size d) T9))
    have HXW := hid (rdG_one (bytes := 184) (size := 12) (rd := fun w' _ e cs => RdSt w' T9 e cs) (S := Is W4.heap.size) (g := W4.heap.size) rfl (Blk.made W4 [.int .i64 3, .string noS, .int .i64 (renE E1 a).kind, .int .i64 (renE E1 a).num, .string (renE E1 a).name, .slice A5 (renE E1 a).args.length n5, .int .i64 (renE E1 b).kind, .int .i64 (renE E1 b).num, .string (renE E1 b).name, .slice A6 (renE E1 b).args.length n6, .slice none 0 0, .slice none 0 0] 82 (base := 0) (Nat.zero_le _)).cell (RdSt.keeps _ _ _ _ _ _ (Sub.refl _) (same_of_below bel mT9) rT9) rfl (by decide))
    have HU2 := hid (show Sub T9 (Upto (W4.alloc (.cells #[.int .i64 3, .string noS, .int .i64 (renE E1 a).kind, .int .i64 (renE E1 a).num, .string (renE E1 a).name, .slice A5 (renE E1 a).args.length n5, .int .i64 (renE E1 b).kind, .int .i64 (renE E1 b).num, .string (renE E1 b).name, .slice A6 (renE E1 b).args.length n6, .slice none 0 0, .slice none 0 0] 82)).heap.size) from mT9.trans (Sub.upto bel.size))
    have HU3 := hid (show ∀ k, u8.ownBlock = some k → ¬ T9 k from fun k hk h9 => by
     have h1 := HR4.out.hv k hk
     rcases nT9 k h9 with h2 | h2
     ·have := HS.out k h2; unfold Upto at this; omega
     ·omega)
    have HNM := hid (show NmR2 (W4.alloc (.cells #[.int .i64 3, .string noS, .int .i64 (renE E1 a).kind, .int .i64 (renE E1 a).num, .string (renE E1 a).name, .slice A5 (renE E1 a).args.length n5, .int .i64 (renE E1 b).kind, .int .i64 (renE E1 b).num, .string (renE E1 b).name, .slice A6 (renE E1 b).args.length n6, .slice none 0 0, .slice none 0 0] 82)).heap.size u8 (W4.alloc (.cells #[.int .i64 3, .string noS, .int .i64 (renE E1 a).kind, .int .i64 (renE E1 a).num, .string (renE E1 a).name, .slice A5 (renE E1 a).args.length n5, .int .i64 (renE E1 b).kind, .int .i64 (renE E1 b).num, .string (renE E1 b).name, .slice A6 (renE E1 b).args.length n6, .slice none 0 0, .slice none 0 0] 82)) _ _ from by
     obtain ⟨T, hT, r⟩ := (HR4.out.nr.up (Nat.le_of_lt HR4.out.rn.bd.lt))
     exact ⟨T, fun k hk => ⟨Nat.lt_of_lt_of_le (hT k hk).1 (Nat.le_trans (by omega) bel.size), (hT k hk).2⟩, r.go Flat.keeps bel (fun k hk => by have h1 := (hT k hk).1; unfold Upto; omega) (Sub.refl _)⟩)
    have HN9 := hid (show Sub T9 (Plus S w.heap.size (W4.alloc (.cells #[.int .i64 3, .string noS, .int .i64 (renE E1 a).kind, .int .i64 (renE E1 a).num, .string (renE E1 a).name, .slice A5 (renE E1 a).args.length n5, .int .i64 (renE E1 b).kind, .int .i64 (renE E1 b).num, .string (renE E1 b).name, .slice A6 (renE E1 b).args.length n6, .slice none 0 0, .slice none 0 0] 82)).heap.size) from nT9.trans (Sub.plus_mono (by omega) bel.size))
    have HSZ := hid (show w.heap.size ≤ (W4.alloc (.cells #[.int .i64 3, .string noS, .int .i64 (renE E1 a).kind, .int .i64 (renE E1 a).num, .string (renE E1 a).name, .slice A5 (renE E1 a).args.length n5, .int .i64 (renE E1 b).kind, .int .i64 (renE E1 b).num, .string (renE E1 b).name, .slice A6 (renE E1 b).args.length n6, .slice none 0 0, .slice none 0 0] 82)).heap.size from Nat.le_trans (by omega) bel.size)
    have hO1 : O1.length + 1 ≤ 67108865 := by omega
    clear nT9 mT9 rT9 bel TL XA XB
    go_wp2_with (at_builtin; refine wpList_append_list rfl _ _ 31 rfl i0 _ Tryz.underlying31 hi hz0 hz1' hz2 rfl (by decide) RdSt.keeps HOW.out HXW.out rfl rfl (Sub.right _ _) HU2.out HU3.out oneSt ?c3 ?c4 ?c5 ?_)
    case c3 => unfold maxLen; (try simp only [List.length_singleton]); omega
    case c4 => (try simp only [List.length_singleton]); omega
    try (case c5 => first | exact HSZ.out | (have h9 := HSZ.out; rw [World.size_alloc] at h9; exact h9))
    intro v9 w9 ho9 hg9 hn9
    have HD := hid (HL9.out.done hg9 hg9.size (by rw [World.size_alloc]; exact hn9) ho9 HN9.out HNM.out)
    clear ho9 hg9 hn9 hO1 hld hly  e0 e1 e2 e3 e4 e5 e6 e7 e8 e9 e10 e11 g0 g1 g2 g3 g4 g5 g6 g7 g8 g9 g10 g11
    go_wp2_with fail
    go_roundw
    case rel => exact ⟨q + 1, by omega, by go_num, by first | (rw [HE.out]; done) | (rw [HE.out]; go_num), hid (by rw [HE.out]; exact HD.out.2.1), hid (by rw [HE.out]; exact HD.out.1), hid HD.out.2.2, hid (fun k hk => HD.out.1.lt k hk)⟩
    case measure => simp [intOf]; omega
   by_cases h4 : k = 4
   ·subst h4
    have HE := hid (show renP (l.take (q + 1)) V m = (O1 ++ [.mk 4 noS exZ exZ (renL body E1 M1).1 []], E1, (renL body E1 M1).2) by rw [htk, renP_snoc, ← hP, stepR, renS_blk (.inl rfl)])
    have c10 := HR1.out.rn.bd.cell 10 _ rfl
    have hld := HR1.out.rn.bd.lt
    have hly := HR1.out.yb.lt
    go_wp2_with fail
    refine (HIB.out.1 w7 S _ (E1) (M1) _ _ (HPW.out _ HR1.out.be) HR1.out.nW HR1.out.rn.r1 HR1.out.upto HR1.out.nr.canon (by omega) (by omega) (by omega)).mono ?_
    rintro e w1 ⟨x1, rfl, hx1, hb1⟩
    have HR2 := hid (HR1.out.below hb1)
    have X1 := FrQ.of hx1 hy7 HR2.out.nW
    obtain ⟨A5, n5, rfl⟩ := X1.form
    clear hx1 hb1
    clear hld hly c10  
    have e10 := HR2.out.yb.cell 10 _ rfl
    have g10 := HR2.out.yb.fr 10
    have hld := HR2.out.rn.bd.lt
    have hly := HR2.out.yb.lt
    have HR4 := hid (HR2.out.setV (.slice A5 (renL body E1 M1).1.length n5))
    have X4 := X1.set1 HNS.out hyy (o := 10) (.slice A5 (renL body E1 M1).1.length n5)
    clear X1
    go_upto_region 23 with (fail)
    clear hld hly  e10 g10
    generalize w1.setCell ⟨y, 10, none⟩ (.slice A5 (renL body E1 M1).1.length n5) = W4 at *
    have e0 := HR4.out.yb.cell 0 _ rfl
    have e1 := HR4.out.yb.cell 1 _ rfl
    have e2 := HR4.out.yb.cell 2 _ rfl
    have e3 := HR4.out.yb.cell 3 _ rfl
    have e4 := HR4.out.yb.cell 4 _ rfl
    have e5 := HR4.out.yb.cell 5 _ rfl
    have e6 := HR4.out.yb.cell 6 _ rfl
    have e7 := HR4.out.yb.cell 7 _ rfl
    have e8 := HR4.out.yb.cell 8 _ rfl
    have e9 := HR4.out.yb.cell 9 _ rfl
    have e10 := HR4.out.yb.cell 10 _ rfl
    have e11 := HR4.out.yb.cell 11 _ rfl
    have g0 := HR4.out.yb.fr 0
    have g1 := HR4.out.yb.fr 1
    have g2 := HR4.out.yb.fr 2
    have g3 := HR4.out.yb.fr 3
    have g4 := HR4.out.yb.fr 4
    have g5 := HR4.out.yb.fr 5
    have g6 := HR4.out.yb.fr 6
    have g7 := HR4.out.yb.fr 7
    have g8 := HR4.out.yb.fr 8
    have g9 := HR4.out.yb.fr 9
    have g10 := HR4.out.yb.fr 10
    have g11 := HR4.out.yb.fr 11
    have hld := HR4.out.rn.bd.lt
    have hly := HR4.out.yb.lt
    have TL := hid (show ∃ T, Sub T (Plus S (y + 1) W4.heap.size) ∧ Sub T (Upto W4.heap.size) ∧ RdSt W4 T (.mk 4 noS exZ exZ (renL body E1 M1).1 []) [.int .i64 4, .string noS, .int .i64 0, .int .i64 0, .string noS, .slice none 0 0, .int .i64 0, .int .i64 0, .string noS, .slice none 0 0, .slice A5 (renL body E1 M1).1.length n5, .slice none 0 0] from tld_cells hk okS_n (FrP.zero _ _ _) (FrP.zero _ _ _) X4 (FrQ.nil _ _ _))
    have bel : Below W4.heap.size W4 (W4.alloc (.cells #[.int .i64 4, .string noS, .int .i64 0, .int .i64 0, .string noS, .slice none 0 0, .int .i64 0, .int .i64 0, .string noS, .slice none 0 0, .slice A5 (renL body E1 M1).1.length n5, .slice none 0 0] 82)) := (Below.refl _ _).alloc (Nat.le_refl _) _
    obtain ⟨T9, nT9, mT9, rT9⟩ := TL.out
    have hyw : y + 1 ≤ W4.heap.size := hly
    have HL9 := hid (HR4.out.below bel)
    have HOW := hid (HL9.out.ow.sub (Sub.left (Plus S w.heap.size d) T9))
    have HXW := hid (rdG_one (bytes := 184) (size := 12) (rd := fun w' _ e cs => RdSt w' T9 e cs) (S := Is W4.heap.size) (g := W4.heap.size) rfl (Blk.made W4 [.int .i64 4, .string noS, .int .i64 0, .int .i64 0, .string noS, .slice none 0 0, .int .i64 0, .int .i64 0, .string noS, .slice none 0 0, .slice A5 (renL body E1 M1).1.length n5, .slice none 0 0] 82 (base := 0) (Nat.zero_le _)).cell (RdSt.keeps _ _ _ _ _ _ (Sub.refl _) (same_of_below bel mT9) rT9) rfl (by decide))
    have HU2 := hid (show Sub T9 (Upto (W4.alloc (.cells #[.int .i64 4, .string noS, .int .i64 0, .int .i64 0, .string noS, .slice none 0 0, .int .i64 0, .int .i64 0, .string noS, .slice none 0 0, .slice A5 (renL body E1 M1).1.length n5, .slice none 0 0] 82)).heap.size) from mT9.trans (Sub.upto bel.size))
    have HU3 := hid (show ∀ k, u8.ownBlock = some k → ¬ T9 k from fun k hk h9 => by
     have h1 := HR4.out.hv k hk
     rcases nT9 k h9 with h2 | h2
     ·have := HS.out k h2; unfold Upto at this; omega
     ·omega)
    have HNM := hid (show NmR2 (W4.alloc (.cells #[.int .i64 4, .string noS, .int .i64 0, .int .i64 0, .string noS, .slice none 0 0, .int .i64 0, .int .i64 0, .string noS, .slice none 0 0, .slice A5 (renL body E1 M1).1.length n5, .slice none 0 0] 82)).heap.size u8 (W4.alloc (.cells #[.int .i64 4, .string noS, .int .i64 0, .int .i64 0, .string noS, .slice none 0 0, .int .i64 0, .int .i64 0, .string noS, .slice none 0 0, .slice A5 (renL body E1 M1).1.length n5, .slice none 0 0] 82)) _ _ from by
     obtain ⟨T, hT, r⟩ := (HR4.out.nr.up (Nat.le_of_lt HR4.out.rn.bd.lt))
     exact ⟨T, fun k hk => ⟨Nat.lt_of_lt_of_le (hT k hk).1 (Nat.le_trans (by omega) bel.size), (hT k hk).2⟩, r.go Flat.keeps bel (fun k hk => by have h1 := (hT k hk).1; unfold Upto; omega) (Sub.refl _)⟩)
    have HN9 := hid (show Sub T9 (Plus S w.heap.size (W4.alloc (.cells #[.int .i64 4, .string noS, .int .i64 0, .int .i64 0, .string noS, .slice none 0 0, .int .i64 0, .int .i64 0, .string noS, .slice none 0 0, .slice A5 (renL body E1 M1).1.length n5, .slice none 0 0] 82)).heap.size) from nT9.trans (Sub.plus_mono (by omega) bel.size))
    have HSZ := hid (show w.heap.size ≤ (W4.alloc (.cells #[.int .i64 4, .string noS, .int .i64 0, .int .i64 0, .string noS, .slice none 0 0, .int .i64 0, .int .i64 0, .string noS, .slice none 0 0, .slice A5 (renL body E1 M1).1.length n5, .slice none 0 0] 82)).heap.size from Nat.le_trans (by omega) bel.size)
    have hO1 : O1.length + 1 ≤ 67108865 := by omega
    clear nT9 mT9 rT9 bel TL X4
    go_wp2_with (at_builtin; refine wpList_append_list rfl _ _ 31 rfl i0 _ Tryz.underlying31 hi hz0 hz1' hz2 rfl (by decide) RdSt.keeps HOW.out HXW.out rfl rfl (Sub.right _ _) HU2.out HU3.out oneSt ?c3 ?c4 ?c5 ?_)
    case c3 => unfold maxLen; (try simp only [List.length_singleton]); omega
    case c4 => (try simp only [List.length_singleton]); omega
    try (case c5 => first | exact HSZ.out | (have h9 := HSZ.out; rw [World.size_alloc] at h9; exact h9))
    intro v9 w9 ho9 hg9 hn9
    have HD := hid (HL9.out.done hg9 hg9.size (by rw [World.size_alloc]; exact hn9) ho9 HN9.out HNM.out)
    clear ho9 hg9 hn9 hO1 hld hly  e0 e1 e2 e3 e4 e5 e6 e7 e8 e9 e10 e11 g0 g1 g2 g3 g4 g5 g6 g7 g8 g9 g10 g11
    go_wp2_with fail
    go_roundw
    case rel => exact ⟨q + 1, by omega, by go_num, by first | (rw [HE.out]; done) | (rw [HE.out]; go_num), hid (by rw [HE.out]; exact HD.out.2.1), hid (by rw [HE.out]; exact HD.out.1), hid HD.out.2.2, hid (fun k hk => HD.out.1.lt k hk)⟩
    case measure => simp [intOf]; omega
   by_cases h5 : k = 5
   ·subst h5
    have HE := hid (show renP (l.take (q + 1)) V m = (O1 ++ [.mk 5 noS exZ exZ (renL body E1 M1).1 []], E1, (renL body E1 M1).2) by rw [htk, renP_snoc, ← hP, stepR, renS_blk (.inr rfl)])
    have c10 := HR1.out.rn.bd.cell 10 _ rfl
    have hld := HR1.out.rn.bd.lt
    have hly := HR1.out.yb.lt
    go_wp2_with fail
    refine (HIB.out.1 w7 S _ (E1) (M1) _ _ (HPW.out _ HR1.out.be) HR1.out.nW HR1.out.rn.r1 HR1.out.upto HR1.out.nr.canon (by omega) (by omega) (by omega)).mono ?_
    rintro e w1 ⟨x1, rfl, hx1, hb1⟩
    have HR2 := hid (HR1.out.below hb1)
    have X1 := FrQ.of hx1 hy7 HR2.out.nW
    obtain ⟨A5, n5, rfl⟩ := X1.form
    clear hx1 hb1
    clear hld hly c10  
    have e10 := HR2.out.yb.cell 10 _ rfl
    have g10 := HR2.out.yb.fr 10
    have hld := HR2.out.rn.bd.lt
    have hly := HR2.out.yb.lt
    have HR4 := hid (HR2.out.setV (.slice A5 (renL body E1 M1).1.length n5))
    have X4 := X1.set1 HNS.out hyy (o := 10) (.slice A5 (renL body E1 M1).1.length n5)
    clear X1
    go_upto_region 23 with (fail)
    clear hld hly  e10 g10
    generalize w1.setCell ⟨y, 10, none⟩ (.slice A5 (renL body E1 M1).1.length n5) = W4 at *
    have e0 := HR4.out.yb.cell 0 _ rfl
    have e1 := HR4.out.yb.cell 1 _ rfl
    have e2 := HR4.out.yb.cell 2 _ rfl
    have e3 := HR4.out.yb.cell 3 _ rfl
    have e4 := HR4.out.yb.cell 4 _ rfl
    have e5 := HR4.out.yb.cell 5 _ rfl
    have e6 := HR4.out.yb.cell 6 _ rfl
    have e7 := HR4.out.yb.cell 7 _ rfl
    have e8 := HR4.out.yb.cell 8 _ rfl
    have e9 := HR4.out.yb.cell 9 _ rfl
    have e10 := HR4.out.yb.cell 10 _ rfl
    have e11 := HR4.out.yb.cell 11 _ rfl
    have g0 := HR4.out.yb.fr 0
    have g1 := HR4.out.yb.fr 1
    have g2 := HR4.out.yb.fr 2
    have g3 := HR4.out.yb.fr 3
    have g4 := HR4.out.yb.fr 4
    have g5 := HR4.out.yb.fr 5
    have g6 := HR4.out.yb.fr 6
    have g7 := HR4.out.yb.fr 7
    have g8 := HR4.out.yb.fr 8
    have g9 := HR4.out.yb.fr 9
    have g10 := HR4.out.yb.fr 10
    have g11 := HR4.out.yb.fr 11
    have hld := HR4.out.rn.bd.lt
    have hly := HR4.out.yb.lt
    have TL := hid (show ∃ T, Sub T (Plus S (y + 1) W4.heap.size) ∧ Sub T (Upto W4.heap.size) ∧ RdSt W4 T (.mk 5 noS exZ exZ (renL body E1 M1).1 []) [.int .i64 5, .string noS, .int .i64 0, .int .i64 0, .string noS, .slice none 0 0, .int .i64 0, .int .i64 0, .string noS, .slice none 0 0, .slice A5 (renL body E1 M1).1.length n5, .slice none 0 0] from tld_cells hk okS_n (FrP.zero _ _ _) (FrP.zero _ _ _) X4 (FrQ.nil _ _ _))
    have bel : Below W4.heap.size W4 (W4.alloc (.cells #[.int .i64 5, .string noS, .int .i64 0, .int .i64 0, .string noS, .slice none 0 0, .int .i64 0, .int .i64 0, .string noS, .slice none 0 0, .slice A5 (renL body E1 M1).1.length n5, .slice none 0 0] 82)) := (Below.refl _ _).alloc (Nat.le_refl _) _
    obtain ⟨T9, nT9, mT9, rT9⟩ := TL.out
    have hyw : y + 1 ≤ W4.heap.size := hly
    have HL9 := hid (HR4.out.below bel)
    have HOW := hid (HL9.out.ow.sub (Sub.left (Plus S w.heap.size d) T9))
    have HXW := hid (rdG_one (bytes := 184) (size := 12) (rd := fun w' _ e cs => RdSt w' T9 e cs) (S := Is W4.heap.size) (g := W4.heap.size) rfl (Blk.made W4 [.int .i64 5, .string noS, .int .i64 0, .int .i64 0, .string noS, .slice none 0 0, .int .i64 0, .int .i64 0, .string noS, .slice none 0 0, .slice A5 (renL body E1 M1).1.length n5, .slice none 0 0] 82 (base := 0) (Nat.zero_le _)).cell (RdSt.keeps _ _ _ _ _ _ (Sub.refl _) (same_of_below bel mT9) rT9) rfl (by decide))
    have HU2 := hid (show Sub T9 (Upto (W4.alloc (.cells #[.int .i64 5, .string noS, .int .i64 0, .int .i64 0, .string noS, .slice none 0 0, .int .i64 0, .int .i64 0, .string noS, .slice none 0 0, .slice A5 (renL body E1 M1).1.length n5, .slice none 0 0] 82)).heap.size) from mT9.trans (Sub.upto bel.size))
    have HU3 := hid (show ∀ k, u8.ownBlock = some k → ¬ T9 k from fun k hk h9 => by
     have h1 := HR4.out.hv k hk
     rcases nT9 k h9 with h2 | h2
     ·have := HS.out k h2; unfold Upto at this; omega
     ·omega)
    have HNM := hid (show NmR2 (W4.alloc (.cells #[.int .i64 5, .string noS, .int .i64 0, .int .i64 0, .string noS, .slice none 0 0, .int .i64 0, .int .i64 0, .string noS, .slice none 0 0, .slice A5 (renL body E1 M1).1.length n5, .slice none 0 0] 82)).heap.size u8 (W4.alloc (.cells #[.int .i64 5, .string noS, .int .i64 0, .int .i64 0, .string noS, .slice none 0 0, .int .i64 0, .int .i64 0, .string noS, .slice none 0 0, .slice A5 (renL body E1 M1).1.length n5, .slice none 0 0] 82)) _ _ from by
     obtain ⟨T, hT, r⟩ := (HR4.out.nr.up (Nat.le_of_lt HR4.out.rn.bd.lt))
     exact ⟨T, fun k hk => ⟨Nat.lt_of_lt_of_le (hT k hk).1 (Nat.le_trans (by omega) bel.size), (hT k hk).2⟩, r.go Flat.keeps bel (fun k hk => by have h1 := (hT k hk).1; unfold Upto; omega) (Sub.refl _)⟩)
    have HN9 := hid (show Sub T9 (Plus S w.heap.size (W4.alloc (.cells #[.int .i64 5, .string noS, .int .i64 0, .int .i64 0, .string noS, .slice none 0 0, .int .i64 0, .int .i64 0, .string noS, .slice none 0 0, .slice A5 (renL body E1 M1).1.length n5, .slice none 0 0] 82)).heap.size) from nT9.trans (Sub.plus_mono (by omega) bel.size))
    have HSZ := hid (show w.heap.size ≤ (W4.alloc (.cells #[.int .i64 5, .string noS, .int .i64 0, .int .i64 0, .string noS, .slice none 0 0, .int .i64 0, .int .i64 0, .string noS, .slice none 0 0, .slice A5 (renL body E1 M1).1.length n5, .slice none 0 0] 82)).heap.size from Nat.le_trans (by omega) bel.size)
    have hO1 : O1.length + 1 ≤ 67108865 := by omega
    clear nT9 mT9 rT9 bel TL X4
    go_wp2_with (at_builtin; refine wpList_append_list rfl _ _ 31 rfl i0 _ Tryz.underlying31 hi hz0 hz1' hz2 rfl (by decide) RdSt.keeps HOW.out HXW.out rfl rfl (Sub.right _ _) HU2.out HU3.out oneSt ?c3 ?c4 ?c5 ?_)
    case c3 => unfold maxLen; (try simp only [List.length_singleton]); omega
    case c4 => (try simp only [List.length_singleton]); omega
    try (case c5 => first | exact HSZ.out | (have h9 := HSZ.out; rw [World.size_alloc] at h9; exact h9))
    intro v9 w9 ho9 hg9 hn9
    have HD := hid (HL9.out.done hg9 hg9.size (by rw [World.size_alloc]; exact hn9) ho9 HN9.out HNM.out)
    clear ho9 hg9 hn9 hO1 hld hly  e0 e1 e2 e3 e4 e5 e6 e7 e8 e9 e10 e11 g0 g1 g2 g3 g4 g5 g6 g7 g8 g9 g10 g11
    go_wp2_with fail
    go_roundw
    case rel => exact ⟨q + 1, by omega, by go_num, by first | (rw [HE.out]; done) | (rw [HE.out]; go_num), hid (by rw [HE.out]; exact HD.out.2.1), hid (by rw [HE.out]; exact HD.out.1), hid HD.out.2.2, hid (fun k hk => HD.out.1.lt k hk)⟩
    case measure => simp [intOf]; omega
   by_cases h6 : k = 6
   ·subst h6
    have HE := hid (show renP (l.take (q + 1)) V m = (O1 ++ [.mk 6 noS (renE E1 a) exZ (renL body E1 M1).1 (renL els E1 (renL body E1 M1).2).1], E1, (renL els E1 (renL body E1 M1).2).2) by rw [htk, renP_snoc, ← hP, stepR, renS_if])
    have hM2 := renL_le body E1 M1
    have c2 := HR1.out.rn.bd.cell 2 _ rfl
    have c3 := HR1.out.rn.bd.cell 3 _ rfl
    have c4 := HR1.out.rn.bd.cell 4 _ rfl
    have c5 := HR1.out.rn.bd.cell 5 _ rfl
    have hld := HR1.out.rn.bd.lt
    have hly := HR1.out.yb.lt
    go_wp2_with fail
    refine (lx_all E1 a w7 S _ _ _ HR1.out.nW HR1.out.rn.ra HR1.out.upto HR1.out.nr.canon).mono ?_
    rintro e w1 ⟨U1, rfl, hu1, hb1⟩
    have HR2 := hid (HR1.out.below hb1)
    have X1 : FrP (y + 1) S w1 (renE E1 a) U1 := FrP.of hu1 hy7 HR2.out.nW
    obtain ⟨A5, n5, rfl⟩ := X1.form
    clear hu1 hb1
    clear hld hly c2 c3 c4 c5  
    have c10 := HR2.out.rn.bd.cell 10 _ rfl
    have e2 := HR2.out.yb.cell 2 _ rfl
    have e3 := HR2.out.yb.cell 3 _ rfl
    have e4 := HR2.out.yb.cell 4 _ rfl
    have e5 := HR2.out.yb.cell 5 _ rfl
    have g2 := HR2.out.yb.fr 2
    have g3 := HR2.out.yb.fr 3
    have g4 := HR2.out.yb.fr 4
    have g5 := HR2.out.yb.fr 5
    have hld := HR2.out.rn.bd.lt
    have hly := HR2.out.yb.lt
    have HR3 := hid (HR2.out.setA (.int .i64 (renE E1 a).kind) (.int .i64 (renE E1 a).num) (.string (renE E1 a).name) (.slice A5 (renE E1 a).args.length n5))
    have X3 := X1.setA HNS.out hyy 2 (.int .i64 (renE E1 a).kind) (.int .i64 (renE E1 a).num) (.string (renE E1 a).name) (.slice A5 (renE E1 a).args.length n5)
    clear X1
    go_wp2_with fail
    clear hld hly c10 e2 e3 e4 e5 g2 g3 g4 g5
    generalize ((((w1.setCell ⟨y, 2, none⟩ (.int .i64 (renE E1 a).kind)).setCell ⟨y, 3, none⟩ (.int .i64 (renE E1 a).num)).setCell ⟨y, 4, none⟩ (.string (renE E1 a).name)).setCell ⟨y, 5, none⟩ (.slice A5 (renE E1 a).args.length n5)) = W3 at *
    have hy3 : y + 1 ≤ W3.heap.size := HR3.out.yb.lt
    refine (HIB.out.1 W3 S _ (E1) (M1) _ _ (HPW.out _ HR3.out.be) HR3.out.nW HR3.out.rn.r1 HR3.out.upto HR3.out.nr.canon (by omega) (by omega) (by omega)).mono ?_
    rintro e w4 ⟨x4, rfl, hx4, hb4⟩
    have HR4 := hid (HR3.out.below hb4)
    have X4 := FrP.via hb4 X3
    have Y4 := FrQ.of hx4 hy3 HR4.out.nW
    obtain ⟨A6, n6, rfl⟩ := Y4.form
    clear hx4 hb4 X3
    have c11 := HR4.out.rn.bd.cell 11 _ rfl
    have e10 := HR4.out.yb.cell 10 _ rfl
    have g10 := HR4.out.yb.fr 10
    have hld := HR4.out.rn.bd.lt
    have hly := HR4.out.yb.lt
    have HR5 := hid (HR4.out.setV (.slice A6 (renL body E1 M1).1.length n6))
    have X5 := X4.set1 HNS.out hyy (o := 10) (.slice A6 (renL body E1 M1).1.length n6)
    have Y5 := Y4.set1 HNS.out hyy (o := 10) (.slice A6 (renL body E1 M1).1.length n6)
    clear X4 Y4
    go_wp2_with fail
    clear hld hly c11 e10 g10
    generalize w4.setCell ⟨y, 10, none⟩ (.slice A6 (renL body E1 M1).1.length n6) = W5 at *
    have hy5 : y + 1 ≤ W5.heap.size := HR5.out.yb.lt
    refine (HIB.out.2 W5 S _ (E1) ((renL body E1 M1).2) _ _ (HPW.out _ HR5.out.be) HR5.out.nW HR5.out.rn.r2 HR5.out.upto HR5.out.nr.canon (by omega) (by omega) (by omega)).mono ?_
    rintro e w6 ⟨x6, rfl, hx6, hb6⟩
    have HR6 := hid (HR5.out.below hb6)
    have X6 := FrP.via hb6 X5
    have Y6 := FrQ.via hb6 Y5
    have Z6 := FrQ.of hx6 hy5 HR6.out.nW
    obtain ⟨A7, n7, rfl⟩ := Z6.form
    clear hx6 hb6 X5 Y5
    have e11 := HR6.out.yb.cell 11 _ rfl
    have g11 := HR6.out.yb.fr 11
    have hld := HR6.out.rn.bd.lt
    have hly := HR6.out.yb.lt
    have HR8 := hid (HR6.out.setW (.slice A7 (renL els E1 (renL body E1 M1).2).1.length n7))
    have X8 := X6.set1 HNS.out hyy (o := 11) (.slice A7 (renL els E1 (renL body E1 M1).2).1.length n7)
    have Y8 := Y6.set1 HNS.out hyy (o := 11) (.slice A7 (renL els E1 (renL body E1 M1).2).1.length n7)
    have Z8 := Z6.set1 HNS.out hyy (o := 11) (.slice A7 (renL els E1 (renL body E1 M1).2).1.length n7)
    clear X6 Y6 Z6
    go_upto_region 23 with (fail)
    clear hld hly  e11 g11
    generalize w6.setCell ⟨y, 11, none⟩ (.slice A7 (renL els E1 (renL body E1 M1).2).1.length n7) = W8 at *
    have e0 := HR8.out.yb.cell 0 _ rfl
    have e1 := HR8.out.yb.cell 1 _ rfl
    have e2 := HR8.out.yb.cell 2 _ rfl
    have e3 := HR8.out.yb.cell 3 _ rfl
    have e4 := HR8.out.yb.cell 4 _ rfl
    have e5 := HR8.out.yb.cell 5 _ rfl
    have e6 := HR8.out.yb.cell 6 _ rfl
    have e7 := HR8.out.yb.cell 7 _ rfl
    have e8 := HR8.out.yb.cell 8 _ rfl
    have e9 := HR8.out.yb.cell 9 _ rfl
    have e10 := HR8.out.yb.cell 10 _ rfl
    have e11 := HR8.out.yb.cell 11 _ rfl
    have g0 := HR8.out.yb.fr 0
    have g1 := HR8.out.yb.fr 1
    have g2 := HR8.out.yb.fr 2
    have g3 := HR8.out.yb.fr 3
    have g4 := HR8.out.yb.fr 4
    have g5 := HR8.out.yb.fr 5
    have g6 := HR8.out.yb.fr 6
    have g7 := HR8.out.yb.fr 7
    have g8 := HR8.out.yb.fr 8
    have g9 := HR8.out.yb.fr 9
    have g10 := HR8.out.yb.fr 10
    have g11 := HR8.out.yb.fr 11
    have hld := HR8.out.rn.bd.lt
    have hly := HR8.out.yb.lt
    have TL := hid (show ∃ T, Sub T (Plus S (y + 1) W8.heap.size) ∧ Sub T (Upto W8.heap.size) ∧ RdSt W8 T (.mk 6 noS (renE E1 a) exZ (renL body E1 M1).1 (renL els E1 (renL body E1 M1).2).1) [.int .i64 6, .string noS, .int .i64 (renE E1 a).kind, .int .i64 (renE E1 a).num, .string (renE E1 a).name, .slice A5 (renE E1 a).args.length n5, .int .i64 0, .int .i64 0, .string noS, .slice none 0 0, .slice A6 (renL body E1 M1).1.length n6, .slice A7 (renL els E1 (renL body E1 M1).2).1.length n7] from tld_cells hk okS_n X8 (FrP.zero _ _ _) Y8 Z8)
    have bel : Below W8.heap.size W8 (W8.alloc (.cells #[.int .i64 6, .string noS, .int .i64 (renE E1 a).kind, .int .i64 (renE E1 a).num, .string (renE E1 a).name, .slice A5 (renE E1 a).args.length n5, .int .i64 0, .int .i64 0, .string noS, .slice none 0 0, .slice A6 (renL body E1 M1).1.length n6, .slice A7 (renL els E1 (renL body E1 M1).2).1.length n7] 82)) := (Below.refl _ _).alloc (Nat.le_refl _) _
    obtain ⟨T9, nT9, mT9, rT9⟩ := TL.out
    have hyw : y + 1 ≤ W8.heap.size := hly
    have HL9 := hid (HR8.out.below bel)
    have HOW := hid (HL9.out.ow.sub (Sub.left (Plus S w.heap.size d) T9))
    have HXW := hid (rdG_one (bytes := 184) (size := 12) (rd := fun w' _ e cs => RdSt w' T9 e cs) (S := Is W8.heap.size) (g := W8.heap.size) rfl (Blk.made W8 [.int .i64 6, .string noS, .int .i64 (renE E1 a).kind, .int .i64 (renE E1 a).num, .string (renE E1 a).name, .slice A5 (renE E1 a).args.length n5, .int .i64 0, .int .i64 0, .string noS, .slice none 0 0, .slice A6 (renL body E1 M1).1.length n6, .slice A7 (renL els E1 (renL body E1 M1).2).1.length n7] 82 (base := 0) (Nat.zero_le _)).cell (RdSt.keeps _ _ _ _ _ _ (Sub.refl _) (same_of_below bel mT9) rT9) rfl (by decide))
    have HU2 := hid (show Sub T9 (Upto (W8.alloc (.cells #[.int .i64 6, .string noS, .int .i64 (renE E1 a).kind, .int .i64 (renE E1 a).num, .string (renE E1 a).name, .slice A5 (renE E1 a).args.length n5, .int .i64 0, .int .i64 0, .string noS, .slice none 0 0, .slice A6 (renL body E1 M1).1.length n6, .slice A7 (renL els E1 (renL body E1 M1).2).1.length n7] 82)).heap.size) from mT9.trans (Sub.upto bel.size))
    have HU3 := hid (show ∀ k, u8.ownBlock = some k → ¬ T9 k from fun k hk h9 => by
     have h1 := HR8.out.hv k hk
     rcases nT9 k h9 with h2 | h2
     ·have := HS.out k h2; unfold Upto at this; omega
     ·omega)
    have HNM := hid (show NmR2 (W8.alloc (.cells #[.int .i64 6, .string noS, .int .i64 (renE E1 a).kind, .int .i64 (renE E1 a).num, .string (renE E1 a).name, .slice A5 (renE E1 a).args.length n5, .int .i64 0, .int .i64 0, .string noS, .slice none 0 0, .slice A6 (renL body E1 M1).1.length n6, .slice A7 (renL els E1 (renL body E1 M1).2).1.length n7] 82)).heap.size u8 (W8.alloc (.cells #[.int .i64 6, .string noS, .int .i64 (renE E1 a).kind, .int .i64 (renE E1 a).num, .string (renE E1 a).name, .slice A5 (renE E1 a).args.length n5, .int .i64 0, .int .i64 0, .string noS, .slice none 0 0, .slice A6 (renL body E1 M1).1.length n6, .slice A7 (renL els E1 (renL body E1 M1).2).1.length n7] 82)) _ _ from by
     obtain ⟨T, hT, r⟩ := (HR8.out.nr.up (Nat.le_of_lt HR8.out.rn.bd.lt))
     exact ⟨T, fun k hk => ⟨Nat.lt_of_lt_of_le (hT k hk).1 (Nat.le_trans (by omega) bel.size), (hT k hk).2⟩, r.go Flat.keeps bel (fun k hk => by have h1 := (hT k hk).1; unfold Upto; omega) (Sub.refl _)⟩)
    have HN9 := hid (show Sub T9 (Plus S w.heap.size (W8.alloc (.cells #[.int .i64 6, .string noS, .int .i64 (renE E1 a).kind, .int .i64 (renE E1 a).num, .string (renE E1 a).name, .slice A5 (renE E1 a).args.length n5, .int .i64 0, .int .i64 0, .string noS, .slice none 0 0, .slice A6 (renL body E1 M1).1.length n6, .slice A7 (renL els E1 (renL body E1 M1).2).1.length n7] 82)).heap.size) from nT9.trans (Sub.plus_mono (by omega) bel.size))
    have HSZ := hid (show w.heap.size ≤ (W8.alloc (.cells #[.int .i64 6, .string noS, .int .i64 (renE E1 a).kind, .int .i64 (renE E1 a).num, .string (renE E1 a).name, .slice A5 (renE E1 a).args.length n5, .int .i64 0, .int .i64 0, .string noS, .slice none 0 0, .slice A6 (renL body E1 M1).1.length n6, .slice A7 (renL els E1 (renL body E1 M1).2).1.length n7] 82)).heap.size from Nat.le_trans (by omega) bel.size)
    have hO1 : O1.length + 1 ≤ 67108865 := by omega
    clear nT9 mT9 rT9 bel TL X8 Y8 Z8
    go_wp2_with (at_builtin; refine wpList_append_list rfl _ _ 31 rfl i0 _ Tryz.underlying31 hi hz0 hz1' hz2 rfl (by decide) RdSt.keeps HOW.out HXW.out rfl rfl (Sub.right _ _) HU2.out HU3.out oneSt ?c3 ?c4 ?c5 ?_)
    case c3 => unfold maxLen; (try simp only [List.length_singleton]); omega
    case c4 => (try simp only [List.length_singleton]); omega
    try (case c5 => first | exact HSZ.out | (have h9 := HSZ.out; rw [World.size_alloc] at h9; exact h9))
    intro v9 w9 ho9 hg9 hn9
    have HD := hid (HL9.out.done hg9 hg9.size (by rw [World.size_alloc]; exact hn9) ho9 HN9.out HNM.out)
    clear ho9 hg9 hn9 hO1 hld hly  e0 e1 e2 e3 e4 e5 e6 e7 e8 e9 e10 e11 g0 g1 g2 g3 g4 g5 g6 g7 g8 g9 g10 g11
    go_wp2_with fail
    go_roundw
    case rel => exact ⟨q + 1, by omega, by go_num, by first | (rw [HE.out]; done) | (rw [HE.out]; go_num), hid (by rw [HE.out]; exact HD.out.2.1), hid (by rw [HE.out]; exact HD.out.1), hid HD.out.2.2, hid (fun k hk => HD.out.1.lt k hk)⟩
    case measure => simp [intOf]; omega
   by_cases h7 : k = 7
   ·subst h7
    have HE := hid (show renP (l.take (q + 1)) V m = (O1 ++ [.mk 7 (vN M1) (renE E1 a) (renE E1 b) (renL body ((s, vN M1) :: E1) (M1 + 1)).1 []], E1, (renL body ((s, vN M1) :: E1) (M1 + 1)).2) by rw [htk, renP_snoc, ← hP, stepR, renS_for])
    have c2 := HR1.out.rn.bd.cell 2 _ rfl
    have c3 := HR1.out.rn.bd.cell 3 _ rfl
    have c4 := HR1.out.rn.bd.cell 4 _ rfl
    have c5 := HR1.out.rn.bd.cell 5 _ rfl
    have c6 := HR1.out.rn.bd.cell 6 _ rfl
    have c7 := HR1.out.rn.bd.cell 7 _ rfl
    have c8 := HR1.out.rn.bd.cell 8 _ rfl
    have c9 := HR1.out.rn.bd.cell 9 _ rfl
    have hld := HR1.out.rn.bd.lt
    have hly := HR1.out.yb.lt
    go_upto_region 21 with (fail)
    have HR1d := hid (HR1.out.below (Below.refl _ _).drew)
    refine wp_region_pre 16 (S := (fun w' => StayX y w7 w')) (by kernel_rfl) (by kernel_rfl) (StayX.of_stay (Stay.mk (Kept.start _))) (fun hHeld => ?_)
    simp only [List.take_succ_cons, List.take_zero]
    refine tkA 0 100 ?_
    refine tkA 1 101 ?_
    refine tkA 2 102 ?_
    refine tkA 4 104 ?_
    refine tkA 5 105 ?_
    refine tkA 6 106 ?_
    refine tkA 8 108 ?_
    refine tkA 9 109 ?_
    refine tkA 10 110 ?_
    refine tkA 11 111 ?_
    (try simp only [Act.put, List.setIfInBounds_toArray, List.set_cons_zero, List.set_cons_succ])
    have hst0 : Stay w7 w7.drew := Stay.mk (Kept.start _)
    refine wpAnyH_ready (rs := [3]) (by kernel_rfl) (by simp) ?_
    refine AllReadyH.cons rfl (fun K hK => ?_) AllReadyH.nil
    go_simp
    refine (lx_all E1 a w7.drew S _ _ _ HR1d.out.nW HR1d.out.rn.ra HR1d.out.upto HR1d.out.nr.canon).mono ?_
    rintro e w1 ⟨U1, rfl, hu1, hb1⟩
    have hst1 : Stay w7 w1 := Stay.step hb1 hst0
    have HR2 := hid (HR1d.out.below hb1)
    have X1 : FrP (y + 1) S w1 (renE E1 a) U1 := FrP.of hu1 hy7 HR2.out.nW
    obtain ⟨A5, n5, rfl⟩ := X1.form
    refine hK.out _ _ ?_ (fun hHeld => ?_)
    ·exact StayX.of_stay hst1
    clear hK K
    refine tkA 12 112 ?_
    (try simp only [Act.put, List.setIfInBounds_toArray, List.set_cons_zero, List.set_cons_succ])
    refine wpAnyH_ready (rs := [7]) (by kernel_rfl) (by simp) ?_
    refine AllReadyH.cons rfl (fun K hK => ?_) AllReadyH.nil
    go_simp
    refine (lx_all E1 b w1 S _ _ _ HR2.out.nW HR2.out.rn.rb HR2.out.upto HR2.out.nr.canon).mono ?_
    rintro e w2 ⟨U2, rfl, hu2, hb2⟩
    have hst2 : Stay w7 w2 := Stay.step hb2 hst1
    have HR3 := hid (HR2.out.below hb2)
    have X2 : FrP (y + 1) S w2 (renE E1 b) U2 := FrP.of hu2 (Nat.le_trans hy7 hb1.size) HR3.out.nW
    have X1' := FrP.via hb2 X1
    obtain ⟨A6, n6, rfl⟩ := X2.form
    refine hK.out _ _ ?_ (fun hHeld => ?_)
    ·exact StayX.of_stay hst2
    clear hK K
    (try simp only [Act.put, List.setIfInBounds_toArray, List.set_cons_zero, List.set_cons_succ])
    have sx2 : StayX y w7 w2 := StayX.of_stay hst2
    clear hu1 hu2 hst0 hst1 hst2 hHeld X1 HR1d hb1 hb2
    clear hld hly c2 c3 c4 c5 c6 c7 c8 c9  
    have e2 := HR3.out.yb.cell 2 _ rfl
    have e3 := HR3.out.yb.cell 3 _ rfl
    have e4 := HR3.out.yb.cell 4 _ rfl
    have e5 := HR3.out.yb.cell 5 _ rfl
    have g2 := HR3.out.yb.fr 2
    have g3 := HR3.out.yb.fr 3
    have g4 := HR3.out.yb.fr 4
    have g5 := HR3.out.yb.fr 5
    have hld := HR3.out.rn.bd.lt
    have hly := HR3.out.yb.lt
    refine wpAnyH_ready (rs := [13]) (by kernel_rfl) (by simp) ?_
    refine AllReadyH.cons rfl (fun K hK => ?_) AllReadyH.nil
    go_simp
    skip
    refine hK.out _ _ ?_ (fun hHeld => ?_)
    ·exact (((sx2.set _).set _).set _).set _
    clear hK K
    (try simp only [Act.put, List.setIfInBounds_toArray, List.set_cons_zero, List.set_cons_succ])
    clear hld hly  e2 e3 e4 e5 g2 g3 g4 g5
    have HR4 := hid (HR3.out.setA (.int .i64 (renE E1 a).kind) (.int .i64 (renE E1 a).num) (.string (renE E1 a).name) (.slice A5 (renE E1 a).args.length n5))
    have XA4 := X1'.setA HNS.out hyy 2 (.int .i64 (renE E1 a).kind) (.int .i64 (renE E1 a).num) (.string (renE E1 a).name) (.slice A5 (renE E1 a).args.length n5)
    have XB4 := X2.setA HNS.out hyy 2 (.int .i64 (renE E1 a).kind) (.int .i64 (renE E1 a).num) (.string (renE E1 a).name) (.slice A5 (renE E1 a).args.length n5)
    have sx4 := (((sx2.set (o := 2) (.int .i64 (renE E1 a).kind)).set (o := 3) (.int .i64 (renE E1 a).num)).set (o := 4) (.string (renE E1 a).name)).set (o := 5) (.slice A5 (renE E1 a).args.length n5)
    clear X1' X2 sx2 hHeld
    generalize ((((w2.setCell ⟨y, 2, none⟩ (.int .i64 (renE E1 a).kind)).setCell ⟨y, 3, none⟩ (.int .i64 (renE E1 a).num)).setCell ⟨y, 4, none⟩ (.string (renE E1 a).name)).setCell ⟨y, 5, none⟩ (.slice A5 (renE E1 a).args.length n5)) = W4 at *
    have e6 := HR4.out.yb.cell 6 _ rfl
    have e7 := HR4.out.yb.cell 7 _ rfl
    have e8 := HR4.out.yb.cell 8 _ rfl
    have e9 := HR4.out.yb.cell 9 _ rfl
    have g6 := HR4.out.yb.fr 6
    have g7 := HR4.out.yb.fr 7
    have g8 := HR4.out.yb.fr 8
    have g9 := HR4.out.yb.fr 9
    have hld := HR4.out.rn.bd.lt
    have hly := HR4.out.yb.lt
    refine tkA 14 113 ?_
    (try simp only [Act.put, List.setIfInBounds_toArray, List.set_cons_zero, List.set_cons_succ])
    refine wpAnyH_ready (rs := [15]) (by kernel_rfl) (by simp) ?_
    refine AllReadyH.cons rfl (fun K hK => ?_) AllReadyH.nil
    go_simp
    skip
    refine hK.out _ _ ?_ (fun hHeld => ?_)
    ·exact (((sx4.set _).set _).set _).set _
    clear hK K
    (try simp only [Act.put, List.setIfInBounds_toArray, List.set_cons_zero, List.set_cons_succ])
    clear hld hly  e6 e7 e8 e9 g6 g7 g8 g9
    have HR5 := hid (HR4.out.setB (.int .i64 (renE E1 b).kind) (.int .i64 (renE E1 b).num) (.string (renE E1 b).name) (.slice A6 (renE E1 b).args.length n6))
    have XA5 := XA4.setA HNS.out hyy 6 (.int .i64 (renE E1 b).kind) (.int .i64 (renE E1 b).num) (.string (renE E1 b).name) (.slice A6 (renE E1 b).args.length n6)
    have XB5 := XB4.setA HNS.out hyy 6 (.int .i64 (renE E1 b).kind) (.int .i64 (renE E1 b).num) (.string (renE E1 b).name) (.slice A6 (renE E1 b).args.length n6)
    have sx5 := (((sx4.set (o := 6) (.int .i64 (renE E1 b).kind)).set (o := 7) (.int .i64 (renE E1 b).num)).set (o := 8) (.string (renE E1 b).name)).set (o := 9) (.slice A6 (renE E1 b).args.length n6)
    clear XA4 XB4 sx4 hHeld
    generalize ((((W4.setCell ⟨y, 6, none⟩ (.int .i64 (renE E1 b).kind)).setCell ⟨y, 7, none⟩ (.int .i64 (renE E1 b).num)).setCell ⟨y, 8, none⟩ (.string (renE E1 b).name)).setCell ⟨y, 9, none⟩ (.slice A6 (renE E1 b).args.length n6)) = W5 at *
    have c10 := HR5.out.rn.bd.cell 10 _ rfl
    have e1 := HR5.out.yb.cell 1 _ rfl
    have g1 := HR5.out.yb.fr 1
    have hld := HR5.out.rn.bd.lt
    have hly := HR5.out.yb.lt
    refine wpAnyH_done (by kernel_rfl) ?_ _
    unfold QPre
    simp only [List.drop_succ_cons, List.drop_zero]
    have HR6 := hid (HR5.out.setN (.string (vN M1)))
    have XA6 := XA5.set1 HNS.out hyy (o := 1) (.string (vN M1))
    have XB6 := XB5.set1 HNS.out hyy (o := 1) (.string (vN M1))
    have NM6 := hid (NM7.out.stx HYM.out (sx5.set (o := 1) (.string (vN M1))))
    clear XA5 XB5 sx5
    have hwm : IntKind.i64.wrap ((M1 : Int) + 1) = (M1 : Int) + 1 := IntWalk.i64_in _ (by omega)
    have hwm2 : wrap64 ((M1 : Int) + 1) = (M1 : Int) + 1 := IntWalk.wrap64_in _ (by omega)
    go_wp2_with fail
    clear hwm hwm2
    clear hld hly c10 e1 g1
    generalize W5.setCell ⟨y, 1, none⟩ (.string (vN M1)) = W6 at *
    have hy6 : y + 1 ≤ W6.heap.size := HR6.out.yb.lt
    obtain ⟨T6, hT6, r6⟩ := NM6.out
    have HT6 := hid (And.intro (show Sub T6 (Upto W6.heap.size) from fun k hk => (hT6 k hk).1) r6)
    clear hT6 r6
    refine (HIB.out.1 W6 S _ ((s, vN M1) :: E1) (M1 + 1) _ _ (HPW.out _ HR6.out.be) HR6.out.nW HR6.out.rn.r1 HT6.out.1 HT6.out.2 (by omega) (by omega) (by simp only [List.length_cons]; omega)).mono ?_
    rintro e w8 ⟨x8, rfl, hx8, hb8⟩
    have HR8 := hid (HR6.out.below hb8)
    have XA8 := FrP.via hb8 XA6
    have XB8 := FrP.via hb8 XB6
    have Y8 := FrQ.of hx8 hy6 HR8.out.nW
    obtain ⟨A9, n9, rfl⟩ := Y8.form
    clear hx8 hb8 XA6 XB6
    have e10 := HR8.out.yb.cell 10 _ rfl
    have g10 := HR8.out.yb.fr 10
    have hld := HR8.out.rn.bd.lt
    have hly := HR8.out.yb.lt
    have HR9 := hid (HR8.out.setV (.slice A9 (renL body ((s, vN M1) :: E1) (M1 + 1)).1.length n9))
    have XA9 := XA8.set1 HNS.out hyy (o := 10) (.slice A9 (renL body ((s, vN M1) :: E1) (M1 + 1)).1.length n9)
    have XB9 := XB8.set1 HNS.out hyy (o := 10) (.slice A9 (renL body ((s, vN M1) :: E1) (M1 + 1)).1.length n9)
    have Y9 := Y8.set1 HNS.out hyy (o := 10) (.slice A9 (renL body ((s, vN M1) :: E1) (M1 + 1)).1.length n9)
    clear XA8 XB8 Y8
    go_upto_region 23 with (fail)
    clear hld hly  e10 g10
    generalize w8.setCell ⟨y, 10, none⟩ (.slice A9 (renL body ((s, vN M1) :: E1) (M1 + 1)).1.length n9) = W9 at *
    have e0 := HR9.out.yb.cell 0 _ rfl
    have e1 := HR9.out.yb.cell 1 _ rfl
    have e2 := HR9.out.yb.cell 2 _ rfl
    have e3 := HR9.out.yb.cell 3 _ rfl
    have e4 := HR9.out.yb.cell 4 _ rfl
    have e5 := HR9.out.yb.cell 5 _ rfl
    have e6 := HR9.out.yb.cell 6 _ rfl
    have e7 := HR9.out.yb.cell 7 _ rfl
    have e8 := HR9.out.yb.cell 8 _ rfl
    have e9 := HR9.out.yb.cell 9 _ rfl
    have e10 := HR9.out.yb.cell 10 _ rfl
    have e11 := HR9.out.yb.cell 11 _ rfl
    have g0 := HR9.out.yb.fr 0
    have g1 := HR9.out.yb.fr 1
    have g2 := HR9.out.yb.fr 2
    have g3 := HR9.out.yb.fr 3
    have g4 := HR9.out.yb.fr 4
    have g5 := HR9.out.yb.fr 5
    have g6 := HR9.out.yb.fr 6
    have g7 := HR9.out.yb.fr 7
    have g8 := HR9.out.yb.fr 8
    have g9 := HR9.out.yb.fr 9
    have g10 := HR9.out.yb.fr 10
    have g11 := HR9.out.yb.fr 11
    have hld := HR9.out.rn.bd.lt
    have hly := HR9.out.yb.lt
    have TL := hid (show ∃ T, Sub T (Plus S (y + 1) W9.heap.size) ∧ Sub T (Upto W9.heap.size) ∧ RdSt W9 T (.mk 7 (vN M1) (renE E1 a) (renE E1 b) (renL body ((s, vN M1) :: E1) (M1 + 1)).1 []) [.int .i64 7, .string (vN M1), .int .i64 (renE E1 a).kind, .int .i64 (renE E1 a).num, .string (renE E1 a).name, .slice A5 (renE E1 a).args.length n5, .int .i64 (renE E1 b).kind, .int .i64 (renE E1 b).num, .string (renE E1 b).name, .slice A6 (renE E1 b).args.length n6, .slice A9 (renL body ((s, vN M1) :: E1) (M1 + 1)).1.length n9, .slice none 0 0] from tld_cells hk (by have := vN_size M1 (by omega); unfold okS; omega) XA9 XB9 Y9 (FrQ.nil _ _ _))
    have bel : Below W9.heap.size W9 (W9.alloc (.cells #[.int .i64 7, .string (vN M1), .int .i64 (renE E1 a).kind, .int .i64 (renE E1 a).num, .string (renE E1 a).name, .slice A5 (renE E1 a).args.length n5, .int .i64 (renE E1 b).kind, .int .i64 (renE E1 b).num, .string (renE E1 b).name, .slice A6 (renE E1 b).args.length n6, .slice A9 (renL body ((s, vN M1) :: E1) (M1 + 1)).1.length n9, .slice none 0 0] 82)) := (Below.refl _ _).alloc (Nat.le_refl _) _
    obtain ⟨T9, nT9, mT9, rT9⟩ := TL.out
    have hyw : y + 1 ≤ W9.heap.size := hly
    have HL9 := hid (HR9.out.below bel)
    have HOW := hid (HL9.out.ow.sub (Sub.left (Plus S w.heap.size d) T9))
    have HXW := hid (rdG_one (bytes := 184) (size := 12) (rd := fun w' _ e cs => RdSt w' T9 e cs) (S := Is W9.heap.size) (g := W9.heap.size) rfl (Blk.made W9 [.int .i64 7, .string (vN M1), .int .i64 (renE E1 a).kind, .int .i64 (renE E1 a).num, .string (renE E1 a).name, .slice A5 (renE E1 a).args.length n5, .int .i64 (renE E1 b).kind, .int .i64 (renE E1 b).num, .string (renE E1 b).name, .slice A6 (renE E1 b).args.length n6, .slice A9 (renL body ((s, vN M1) :: E1) (M1 + 1)).1.length n9, .slice none 0 0] 82 (base := 0) (Nat.zero_le _)).cell (RdSt.keeps _ _ _ _ _ _ (Sub.refl _) (same_of_below bel mT9) rT9) rfl (by decide))
    have HU2 := hid (show Sub T9 (Upto (W9.alloc (.cells #[.int .i64 7, .string (vN M1), .int .i64 (renE E1 a).kind, .int .i64 (renE E1 a).num, .string (renE E1 a).name, .slice A5 (renE E1 a).args.length n5, .int .i64 (renE E1 b).kind, .int .i64 (renE E1 b).num, .string (renE E1 b).name, .slice A6 (renE E1 b).args.length n6, .slice A9 (renL body ((s, vN M1) :: E1) (M1 + 1)).1.length n9, .slice none 0 0] 82)).heap.size) from mT9.trans (Sub.upto bel.size))
    have HU3 := hid (show ∀ k, u8.ownBlock = some k → ¬ T9 k from fun k hk h9 => by
     have h1 := HR9.out.hv k hk
     rcases nT9 k h9 with h2 | h2
     ·have := HS.out k h2; unfold Upto at this; omega
     ·omega)
    have HNM := hid (show NmR2 (W9.alloc (.cells #[.int .i64 7, .string (vN M1), .int .i64 (renE E1 a).kind, .int .i64 (renE E1 a).num, .string (renE E1 a).name, .slice A5 (renE E1 a).args.length n5, .int .i64 (renE E1 b).kind, .int .i64 (renE E1 b).num, .string (renE E1 b).name, .slice A6 (renE E1 b).args.length n6, .slice A9 (renL body ((s, vN M1) :: E1) (M1 + 1)).1.length n9, .slice none 0 0] 82)).heap.size u8 (W9.alloc (.cells #[.int .i64 7, .string (vN M1), .int .i64 (renE E1 a).kind, .int .i64 (renE E1 a).num, .string (renE E1 a).name, .slice A5 (renE E1 a).args.length n5, .int .i64 (renE E1 b).kind, .int .i64 (renE E1 b).num, .string (renE E1 b).name, .slice A6 (renE E1 b).args.length n6, .slice A9 (renL body ((s, vN M1) :: E1) (M1 + 1)).1.length n9, .slice none 0 0] 82)) _ _ from by
     obtain ⟨T, hT, r⟩ := (HR9.out.nr.up (Nat.le_of_lt HR9.out.rn.bd.lt))
     exact ⟨T, fun k hk => ⟨Nat.lt_of_lt_of_le (hT k hk).1 (Nat.le_trans (by omega) bel.size), (hT k hk).2⟩, r.go Flat.keeps bel (fun k hk => by have h1 := (hT k hk).1; unfold Upto; omega) (Sub.refl _)⟩)
    have HN9 := hid (show Sub T9 (Plus S w.heap.size (W9.alloc (.cells #[.int .i64 7, .string (vN M1), .int .i64 (renE E1 a).kind, .int .i64 (renE E1 a).num, .string (renE E1 a).name, .slice A5 (renE E1 a).args.length n5, .int .i64 (renE E1 b).kind, .int .i64 (renE E1 b).num, .string (renE E1 b).name, .slice A6 (renE E1 b).args.length n6, .slice A9 (renL body ((s, vN M1) :: E1) (M1 + 1)).1.length n9, .slice none 0 0] 82)).heap.size) from nT9.trans (Sub.plus_mono (by omega) bel.size))
    have HSZ := hid (show w.heap.size ≤ (W9.alloc (.cells #[.int .i64 7, .string (vN M1), .int .i64 (renE E1 a).kind, .int .i64 (renE E1 a).num, .string (renE E1 a).name, .slice A5 (renE E1 a).args.length n5, .int .i64 (renE E1 b).kind, .int .i64 (renE E1 b).num, .string (renE E1 b).name, .slice A6 (renE E1 b).args.length n6, .slice A9 (renL body ((s, vN M1) :: E1) (M1 + 1)).1.length n9, .slice none 0 0] 82)).heap.size from Nat.le_trans (by omega) bel.size)
    have hO1 : O1.length + 1 ≤ 67108865 := by omega
    clear nT9 mT9 rT9 bel TL XA9 XB9 Y9
    go_wp2_with (at_builtin; refine wpList_append_list rfl _ _ 31 rfl i0 _ Tryz.underlying31 hi hz0 hz1' hz2 rfl (by decide) RdSt.keeps HOW.out HXW.out rfl rfl (Sub.right _ _) HU2.out HU3.out oneSt ?c3 ?c4 ?c5 ?_)
    case c3 => unfold maxLen; (try simp only [List.length_singleton]); omega
    case c4 => (try simp only [List.length_singleton]); omega
    try (case c5 => first | exact HSZ.out | (have h9 := HSZ.out; rw [World.size_alloc] at h9; exact h9))
    intro v9 w9 ho9 hg9 hn9
    have HD := hid (HL9.out.done hg9 hg9.size (by rw [World.size_alloc]; exact hn9) ho9 HN9.out HNM.out)
    clear ho9 hg9 hn9 hO1 hld hly  e0 e1 e2 e3 e4 e5 e6 e7 e8 e9 e10 e11 g0 g1 g2 g3 g4 g5 g6 g7 g8 g9 g10 g11
    go_wp2_with fail
    go_roundw
    case rel => exact ⟨q + 1, by omega, by go_num, by first | (rw [HE.out]; done) | (rw [HE.out]; go_num), hid (by rw [HE.out]; exact HD.out.2.1), hid (by rw [HE.out]; exact HD.out.1), hid HD.out.2.2, hid (fun k hk => HD.out.1.lt k hk)⟩
    case measure => simp [intOf]; omega
   have HE := hid (show renP (l.take (q + 1)) V m = (O1 ++ [.mk k noS exZ exZ [] []], E1, M1) by rw [htk, renP_snoc, ← hP, stepR, renS_other (by omega)])
   have k1 : (k == 1) = false := (by simpa using h1); have k2 : (k == 2) = false := (by simpa using h2); have k3 : (k == 3) = false := (by simpa using h3); have k4 : (k == 4) = false := (by simpa using h4); have k5 : (k == 5) = false := (by simpa using h5); have k6 : (k == 6) = false := (by simpa using h6); have k7 : (k == 7) = false := (by simpa using h7)
   clear h1 h2 h3 h4 h5 h6 h7
   go_upto_region 23 with (fail)
   have e0 := HR1.out.yb.cell 0 _ rfl
   have e1 := HR1.out.yb.cell 1 _ rfl
   have e2 := HR1.out.yb.cell 2 _ rfl
   have e3 := HR1.out.yb.cell 3 _ rfl
   have e4 := HR1.out.yb.cell 4 _ rfl
   have e5 := HR1.out.yb.cell 5 _ rfl
   have e6 := HR1.out.yb.cell 6 _ rfl
   have e7 := HR1.out.yb.cell 7 _ rfl
   have e8 := HR1.out.yb.cell 8 _ rfl
   have e9 := HR1.out.yb.cell 9 _ rfl
   have e10 := HR1.out.yb.cell 10 _ rfl
   have e11 := HR1.out.yb.cell 11 _ rfl
   have g0 := HR1.out.yb.fr 0
   have g1 := HR1.out.yb.fr 1
   have g2 := HR1.out.yb.fr 2
   have g3 := HR1.out.yb.fr 3
   have g4 := HR1.out.yb.fr 4
   have g5 := HR1.out.yb.fr 5
   have g6 := HR1.out.yb.fr 6
   have g7 := HR1.out.yb.fr 7
   have g8 := HR1.out.yb.fr 8
   have g9 := HR1.out.yb.fr 9
   have g10 := HR1.out.yb.fr 10
   have g11 := HR1.out.yb.fr 11
   have hld := HR1.out.rn.bd.lt
   have hly := HR1.out.yb.lt
   have TL := hid (show ∃ T, Sub T (Plus S (y + 1) w7.heap.size) ∧ Sub T (Upto w7.heap.size) ∧ RdSt w7 T (.mk k noS exZ exZ [] []) [.int .i64 k, .string noS, .int .i64 0, .int .i64 0, .string noS, .slice none 0 0, .int .i64 0, .int .i64 0, .string noS, .slice none 0 0, .slice none 0 0, .slice none 0 0] from tld_cells hk okS_n (FrP.zero _ _ _) (FrP.zero _ _ _) (FrQ.nil _ _ _) (FrQ.nil _ _ _))
   have bel : Below w7.heap.size w7 (w7.alloc (.cells #[.int .i64 k, .string noS, .int .i64 0, .int .i64 0, .string noS, .slice none 0 0, .int .i64 0, .int .i64 0, .string noS, .slice none 0 0, .slice none 0 0, .slice none 0 0] 82)) := (Below.refl _ _).alloc (Nat.le_refl _) _
   obtain ⟨T9, nT9, mT9, rT9⟩ := TL.out
   have hyw : y + 1 ≤ w7.heap.size := hly
   have HL9 := hid (HR1.out.below bel)
   have HOW := hid (HL9.out.ow.sub (Sub.left (Plus S w.heap.size d) T9))
   have HXW := hid (rdG_one (bytes := 184) (size := 12) (rd := fun w' _ e cs => RdSt w' T9 e cs) (S := Is w7.heap.size) (g := w7.heap.size) rfl (Blk.made w7 [.int .i64 k, .string noS, .int .i64 0, .int .i64 0, .string noS, .slice none 0 0, .int .i64 0, .int .i64 0, .string noS, .slice none 0 0, .slice none 0 0, .slice none 0 0] 82 (base := 0) (Nat.zero_le _)).cell (RdSt.keeps _ _ _ _ _ _ (Sub.refl _) (same_of_below bel mT9) rT9) rfl (by decide))
   have HU2 := hid (show Sub T9 (Upto (w7.alloc (.cells #[.int .i64 k, .string noS, .int .i64 0, .int .i64 0, .string noS, .slice none 0 0, .int .i64 0, .int .i64 0, .string noS, .slice none 0 0, .slice none 0 0, .slice none 0 0] 82)).heap.size) from mT9.trans (Sub.upto bel.size))
   have HU3 := hid (show ∀ k, u8.ownBlock = some k → ¬ T9 k from fun k hk h9 => by
    have h1 := HR1.out.hv k hk
    rcases nT9 k h9 with h2 | h2
    ·have := HS.out k h2; unfold Upto at this; omega
    ·omega)
   have HNM := hid (show NmR2 (w7.alloc (.cells #[.int .i64 k, .string noS, .int .i64 0, .int .i64 0, .string noS, .slice none 0 0, .int .i64 0, .int .i64 0, .string noS, .slice none 0 0, .slice none 0 0, .slice none 0 0] 82)).heap.size u8 (w7.alloc (.cells #[.int .i64 k, .string noS, .int .i64 0, .int .i64 0, .string noS, .slice none 0 0, .int .i64 0, .int .i64 0, .string noS, .slice none 0 0, .slice none 0 0, .slice none 0 0] 82)) _ _ from by
    obtain ⟨T, hT, r⟩ := (HR1.out.nr.up (Nat.le_of_lt HR1.out.rn.bd.lt))
    exact ⟨T, fun k hk => ⟨Nat.lt_of_lt_of_le (hT k hk).1 (Nat.le_trans (by omega) bel.size), (hT k hk).2⟩, r.go Flat.keeps bel (fun k hk => by have h1 := (hT k hk).1; unfold Upto; omega) (Sub.refl _)⟩)
   have HN9 := hid (show Sub T9 (Plus S w.heap.size (w7.alloc (.cells #[.int .i64 k, .string noS, .int .i64 0, .int .i64 0, .string noS, .slice none 0 0, .int .i64 0, .int .i64 0, .string noS, .slice none 0 0, .slice none 0 0, .slice none 0 0] 82)).heap.size) from nT9.trans (Sub.plus_mono (by omega) bel.size))
   have HSZ := hid (show w.heap.size ≤ (w7.alloc (.cells #[.int .i64 k, .string noS, .int .i64 0, .int .i64 0, .string noS, .slice none 0 0, .int .i64 0, .int .i64 0, .string noS, .slice none 0 0, .slice none 0 0, .slice none 0 0] 82)).heap.size from Nat.le_trans (by omega) bel.size)
   have hO1 : O1.length + 1 ≤ 67108865 := by omega
   clear nT9 mT9 rT9 bel TL 
   go_wp2_with (at_builtin; refine wpList_append_list rfl _ _ 31 rfl i0 _ Tryz.underlying31 hi hz0 hz1' hz2 rfl (by decide) RdSt.keeps HOW.out HXW.out rfl rfl (Sub.right _ _) HU2.out HU3.out oneSt ?c3 ?c4 ?c5 ?_)
   case c3 => unfold maxLen; (try simp only [List.length_singleton]); omega
   case c4 => (try simp only [List.length_singleton]); omega
   try (case c5 => first | exact HSZ.out | (have h9 := HSZ.out; rw [World.size_alloc] at h9; exact h9))
   intro v9 w9 ho9 hg9 hn9
   have HD := hid (HL9.out.done hg9 hg9.size (by rw [World.size_alloc]; exact hn9) ho9 HN9.out HNM.out)
   clear ho9 hg9 hn9 hO1 hld hly  e0 e1 e2 e3 e4 e5 e6 e7 e8 e9 e10 e11 g0 g1 g2 g3 g4 g5 g6 g7 g8 g9 g10 g11
   go_wp2_with fail
   go_roundw
   case rel => exact ⟨q + 1, by omega, by go_num, by first | (rw [HE.out]; done) | (rw [HE.out]; go_num), hid (by rw [HE.out]; exact HD.out.2.1), hid (by rw [HE.out]; exact HD.out.1), hid HD.out.2.2, hid (fun k hk => HD.out.1.lt k hk)⟩
   case measure => simp [intOf]; omega
  ·have hql : q = l.length := by omega
   subst hql
   rw [List.take_of_length_le (Nat.le_refl _)] at HN HO ⊢
   have hRL := renP_L l V m
   have hOl := renP_len V m l
   have hlw := len_wts l
   obtain ⟨A8, c8, rfl⟩ := HO.out.form
   go_wp2
   go_ret2
   refine ⟨.slice A8 (renP l V m).1.length c8, ?_, ?_, HB.out⟩
   ·rw [← hRL.2]; rfl
   ·rw [← hRL.1]
    exact HO.out.toRdB RdSt.keeps (by omega) (Sub.refl _) (fun k hk => .inr (HV.out k hk))
end Go.Proofs.YtnpgpcnkdocknaaGreatDoor
