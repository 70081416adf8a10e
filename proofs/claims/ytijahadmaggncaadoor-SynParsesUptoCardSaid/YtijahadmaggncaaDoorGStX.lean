/- Texts merged: Kq2, Pq3, StX. -/
import Derived.Test.YtijahadmaggncaaDoorGOwnTw
import Derived.Test.YtijahadmaggncaaDoorKq1
import Derived.BigRegion
import Derived.Test.YtijahadmaggncaaDoorPq2
import Derived.Test.YtijahadmaggncaaDoorGTwo
/- The walk of the reference's ksplit. -/
namespace Go.Proofs.YtijahadmaggncaaDoor
open Go.RowKit
set_option linter.unusedVariables false
/-- behind q signs: the words that are done, and the one at hand -/
def splitQ (s : Str) : Nat → List Str × Str
  | 0 => ([], ⟨#[]⟩)
  | q + 1 => if s.data.toList[q]? = some 44 then ((splitQ s q).1 ++ [(splitQ s q).2], ⟨#[]⟩) else ((splitQ s q).1, (splitQ s q).2 ++ s.extract q (q + 1))
def splitF (s : Str) : List Str := (splitQ s s.size).1 ++ [(splitQ s s.size).2]
set_option maxHeartbeats 2000000 in
set_option maxRecDepth 100000 in
theorem ksplit_any (s : Str) (hs : s.size ≤ 1000) (w : World) :
    Calls Tryd.prog 172 #[.string s] w fun e w' => ∃ x, e = .returned x ∧ OwnT w' w.heap.size (splitF s) x ∧ Below w.heap.size w w' := by
  obtain ⟨i0, hi, hz0, hz1, hz2⟩ := info_parts infoStr
  have HLN := Lib.hid (show s.data.toList.length = s.size from Array.length_toList)
  have HL0 := Lib.hid (show OwnT (w.alloc (.cells #[.string ⟨#[]⟩] 9)) w.heap.size [⟨#[]⟩] (.slice (some ⟨w.heap.size, 0, none⟩) 1 1) from OwnT.lit1 ⟨#[]⟩ (by unfold okS; decide) (Nat.le_refl _))
  have hb0 : Below w.heap.size w (w.alloc (.cells #[.string ⟨#[]⟩] 9)) := (Below.refl _ _).alloc (Nat.le_refl _) _
  go_enter Tryd.func172, Tryd.ntmps172
  go_wp2_with fail
  generalize (w.alloc (.cells #[.string ⟨#[]⟩] 9)) = W at *
  go_loopw [3, 8] (fun o u wr => ∃ (i : Nat) (out : List Str) (y : Str), u = .int .i64 (i : Int) ∧ i ≤ s.size ∧ out.length ≤ i ∧ y.size ≤ i ∧ Hid (splitQ s i = (out, y)) ∧ Hid (OwnT wr w.heap.size (out ++ [y]) o) ∧ Below w.heap.size w wr) (fun _ u _ => s.size - (intOf u).toNat)
  case atStart => exact ⟨0, [], ⟨#[]⟩, rfl, Nat.zero_le _, Nat.le_refl _, Nat.le_refl _, Lib.hid rfl, HL0, hb0⟩
  case round =>
    clear HL0 hb0
    obtain ⟨i, out, y, rfl, hi1, hol, hyl, HQ, HO, hb⟩ := hrel
    have hsz := hb.size
    by_cases hlt : i < s.size
    · have HG := Lib.hid (show s.data.toList[i]? = some (s[i]'hlt) by
        rw [List.getElem?_eq_getElem (by rw [HLN.out]; exact hlt), Array.getElem_toList]; rfl)
      by_cases h32 : s[i]'hlt = 44
      · have HQ2 := Lib.hid (show splitQ s (i + 1) = (out ++ [y], ⟨#[]⟩) by rw [splitQ, HG.out, h32, if_pos rfl, HQ.out])
        have bl : Below wr.heap.size wr (wr.alloc (.cells #[.string ⟨#[]⟩] 9)) := (Below.refl _ _).alloc (Nat.le_refl _) _
        have O1 := Lib.hid (show OwnT (wr.alloc (.cells #[.string ⟨#[]⟩] 9)) w.heap.size (out ++ [y]) _ from HO.out.keep Flat.keeps bl)
        have R1 := Lib.hid (show RdSs (wr.alloc (.cells #[.string ⟨#[]⟩] 9)) (fun _ => True) [⟨#[]⟩] (.slice (some ⟨wr.heap.size, 0, none⟩) 1 1) from rd_lit ⟨#[]⟩ (by unfold okS; decide))
        have B1 := Lib.hid (hb.trans (bl.mono hsz))
        have hz1' := B1.out.size
        have h32' : ((s[i]'hlt).toNat : Int) = 44 := by rw [h32]; rfl
        clear bl HO hb h32
        go_wp2_with (at_builtin; generalize (wr.alloc (.cells #[.string ⟨#[]⟩] 9)) = W2 at *; refine wpList_append_list rfl _ _ 50 rfl i0 _ Tryd.underlying50 hi hz0 hz1 hz2 rfl (by decide) Flat.keeps O1.out (R1.out.bare Nowhere) rfl rfl (Sub.nowhere _) (Sub.nowhere _) not_nowhere oneS ?c3 ?c4 ?c5 ?_)
        case c3 => simp only [List.length_append, List.length_cons, List.length_nil]; unfold maxLen; omega
        case c4 => simp only [List.length_append, List.length_cons, List.length_nil]; omega
        try (case c5 => exact hz1')
        intro v2 w2 ho hg hk2
        have HO2 := Lib.hid (show OwnT w2 w.heap.size ((out ++ [y]) ++ [⟨#[]⟩]) v2 from by first | exact ho | (rw [List.append_assoc]; exact ho))
        have HB2 := B1.out.grown hg hz1' (fun g hg => (O1.out.lt g hg).1)
        clear ho hg hk2 O1 B1 R1
        go_wp2_with fail
        go_roundw
        case rel => exact ⟨i + 1, out ++ [y], ⟨#[]⟩, by go_num, by omega, by simp only [List.length_append, List.length_cons, List.length_nil]; omega, Nat.zero_le _, HQ2, HO2, HB2⟩
        case measure => simp [intOf]; omega
      · have HQ2 := Lib.hid (show splitQ s (i + 1) = (out, y ++ s.extract i (i + 1)) by rw [splitQ, HG.out, if_neg (fun e => h32 (Option.some.inj e)), HQ.out])
        have hne : 0 < (out ++ [y]).length := by simp
        obtain ⟨g, cap, rfl, hgb, hgl, hcl, hcm, hfr, hat⟩ := OwnL.flat HO.out hne
        have hql : out.length < (out ++ [y]).length := by simp
        have h1 := (hat out.length hql).2 0 _ rfl
        have e2 : (out ++ [y])[out.length]'hql = y := List.getElem_concat_length rfl _
        rw [e2, Nat.mul_one, Nat.add_zero] at h1
        have HAT := Lib.hid h1
        have hf := hfr out.length
        have hll : (out ++ [y]).length = out.length + 1 := by simp
        have HO1 := Lib.hid (show OwnT wr w.heap.size (out ++ [y]) (.slice (some ⟨g, 0, none⟩) (out.length + 1) cap) by have h := HO.out; rw [hll] at h; exact h)
        unfold maxLen at hcm
        rw [hll] at hcl ⊢
        have h32' : ((s[i]'hlt).toNat : Int) ≠ 44 := fun e => h32 (by
          have : (s[i]'hlt).toNat = 44 := by omega
          exact UInt8.toNat_inj.1 this)
        have h32b : (((s[i]'hlt).toNat : Int) == 44) = false := by simpa using h32'
        have hxs : (s.extract i (i + 1)).size = 1 := by rw [ByteArray.size_extract]; omega
        obtain ⟨z, hz⟩ : ∃ z, z = y ++ s.extract i (i + 1) := ⟨_, rfl⟩
        have hzs : z.size ≤ i + 1 := by rw [hz, ByteArray.size_append, hxs]; omega
        have hy1 : y.size + 1 ≤ 9223372036854775807 := by omega
        rw [← hz] at HQ2
        have HZZ := Lib.hid hz.symm
        clear hz hfr hat h1 e2 HO hne hql hll h32 h32'
        have HO3 := Lib.hid (show OwnT (wr.setCell ⟨g, out.length, none⟩ (.string z)).drew w.heap.size (out ++ [z]) (.slice (some ⟨g, 0, none⟩) (out.length + 1) cap) by
          have h := own_set1 HO1.out (q := out.length) (by simp) z (by unfold okS; omega)
          rw [show (out ++ [y]).set out.length z = out ++ [z] by rw [List.set_append_right _ _ (Nat.le_refl _), Nat.sub_self]; rfl] at h
          exact h.keep Flat.keeps (Below.refl _ _).drew)
        have HB3 := Lib.hid (show Below w.heap.size w (wr.setCell ⟨g, out.length, none⟩ (.string z)).drew from (hb.setCell (p := ⟨g, out.length, none⟩) hgb _).drew)
        clear hb HO1
        have h1 := HAT.out
        go_wp2_with fail
        go_region
        rw [HZZ.out]
        generalize (wr.setCell ⟨g, out.length, none⟩ (.string z)).drew = W3 at *
        clear h1 hf
        go_wp2_with fail
        go_roundw
        case rel => exact ⟨i + 1, out, z, by go_num, by omega, by omega, hzs, HQ2, HO3, HB3.out⟩
        case measure => simp [intOf]; omega
    · have hie : i = s.size := by omega
      subst hie
      have HX := Lib.hid (show splitF s = out ++ [y] by unfold splitF; rw [HQ.out])
      obtain ⟨A9, c9, rfl⟩ := HO.out.form
      go_wp2
      go_ret
      exact ⟨_, rfl, by rw [HX.out]; exact HO.out, hb⟩
end Go.Proofs.YtijahadmaggncaaDoor
/- The parser of syn.Parse: two. -/
namespace Go.Proofs.YtijahadmaggncaaDoor
open Go.RowKit
set_option linter.unusedVariables false
theorem signK_in (s : Str) : inI (signK s) := by unfold signK inI; split; · decide
                                                 split; · decide
                                                 split; · decide
                                                 split; · decide
                                                 split; · decide
                                                 split <;> decide
set_option maxHeartbeats 1000000 in
set_option maxRecDepth 100000 in
theorem ptwo_any (s : Str) (a b : Ex) (w : World) (S : Blocks) (Va Vb : Value) (hS : Sub S (Upto w.heap.size)) (ha : RdE w S a Va) (hb : RdE w S b Vb) :
    Calls Tryd.prog 81 #[.string s, Va, Vb] w fun e w' => ∃ U, e = .returned U ∧ RdE w' (Plus S w.heap.size w'.heap.size) (twoX s a b) U ∧ Below w.heap.size w w' := by
  have HA := Lib.hid ha
  have HB := Lib.hid hb
  obtain ⟨A1, c1, rfl⟩ := ha.form
  obtain ⟨A2, c2, rfl⟩ := hb.form
  have HK := Lib.hid (psign_any s)
  have HKI := Lib.hid (signK_in s)
  have HX := Lib.hid (show twoX s a b = mkE (signK s) a b from rfl)
  generalize twoX s a b = X at *
  generalize signK s = k at *
  clear ha hb
  go_enter Tryd.func81, Tryd.ntmps81
  go_upto_region 1 with (fail)
  have HBEL := Lib.hid (show Below w.heap.size w ((((w.alloc (.cells #[.int .i64 a.kind, .int .i64 a.num, .string a.name, .slice A1 a.args.length c1] 74)).alloc (.cells #[.int .i64 b.kind, .int .i64 b.num, .string b.name, .slice A2 b.args.length c2] 74)).alloc (.cells #[.int .i64 k, .int .i64 0, .string noS, .slice (some ⟨w.heap.size + 1 + 1 + 1, 0, none⟩) 2 2] 74)).alloc (.cells #[.int .i64 a.kind, .int .i64 a.num, .string a.name, .slice A1 a.args.length c1, .int .i64 b.kind, .int .i64 b.num, .string b.name, .slice A2 b.args.length c2] 74)).drew from (((((Below.refl _ _).alloc (Nat.le_refl _) _).alloc (by simp) _).alloc (by simp; omega) _).alloc (by simp; omega) _).drew)
  have HFIN := Lib.hid (show RdE ((((w.alloc (.cells #[.int .i64 a.kind, .int .i64 a.num, .string a.name, .slice A1 a.args.length c1] 74)).alloc (.cells #[.int .i64 b.kind, .int .i64 b.num, .string b.name, .slice A2 b.args.length c2] 74)).alloc (.cells #[.int .i64 k, .int .i64 0, .string noS, .slice (some ⟨w.heap.size + 1 + 1 + 1, 0, none⟩) 2 2] 74)).alloc (.cells #[.int .i64 a.kind, .int .i64 a.num, .string a.name, .slice A1 a.args.length c1, .int .i64 b.kind, .int .i64 b.num, .string b.name, .slice A2 b.args.length c2] 74)).drew (Plus S w.heap.size (((((w.alloc (.cells #[.int .i64 a.kind, .int .i64 a.num, .string a.name, .slice A1 a.args.length c1] 74)).alloc (.cells #[.int .i64 b.kind, .int .i64 b.num, .string b.name, .slice A2 b.args.length c2] 74)).alloc (.cells #[.int .i64 k, .int .i64 0, .string noS, .slice (some ⟨w.heap.size + 1 + 1 + 1, 0, none⟩) 2 2] 74)).alloc (.cells #[.int .i64 a.kind, .int .i64 a.num, .string a.name, .slice A1 a.args.length c1, .int .i64 b.kind, .int .i64 b.num, .string b.name, .slice A2 b.args.length c2] 74)).drew).heap.size) X (.agg #[.int .i64 k, .int .i64 0, .string noS, .slice (some ⟨w.heap.size + 1 + 1 + 1, 0, none⟩) 2 2]) by
    have hblk := Blk.made (((w.alloc (.cells #[.int .i64 a.kind, .int .i64 a.num, .string a.name, .slice A1 a.args.length c1] 74)).alloc (.cells #[.int .i64 b.kind, .int .i64 b.num, .string b.name, .slice A2 b.args.length c2] 74)).alloc (.cells #[.int .i64 k, .int .i64 0, .string noS, .slice (some ⟨w.heap.size + 1 + 1 + 1, 0, none⟩) 2 2] 74)) [.int .i64 a.kind, .int .i64 a.num, .string a.name, .slice A1 a.args.length c1, .int .i64 b.kind, .int .i64 b.num, .string b.name, .slice A2 b.args.length c2] 74 (base := 0) (Nat.zero_le _)
    simp only [World.size_alloc] at hblk
    rw [HX.out]
    exact RdE.two HKI.out (HA.out.keep (Sub.plus _ _ _) (same_of_below HBEL.out hS)) (HB.out.keep (Sub.plus _ _ _) (same_of_below HBEL.out hS)) (.inr ⟨by omega, by simp [World.drew]⟩) hblk.cell)
  clear HX HKI hS
  go_region_with (go_at_call 116; refine (HK.out _).mono ?_; rintro e wa ⟨rfl, rfl⟩)
  all_goals
    go_wp2_with fail
    exact bodyPost_ret (v := .agg #[.int .i64 k, .int .i64 0, .string noS, .slice (some ⟨w.heap.size + 1 + 1 + 1, 0, none⟩) 2 2]) (by simp [results, Tryd.results81, go_sem]) rfl ⟨_, rfl, HFIN.out, HBEL.out⟩
end Go.Proofs.YtijahadmaggncaaDoor
/- Worlds in which all but one block is as it was; four cells stored. -/
namespace Go.Proofs.YtijahadmaggncaaDoor
open Go.RowKit
set_option linter.unusedVariables false
def set4 (w : World) (R : Nat) (u0 u1 u2 u3 : Value) : World := (((w.setCell ⟨R, 0, none⟩ u0).setCell ⟨R, 1, none⟩ u1).setCell ⟨R, 2, none⟩ u2).setCell ⟨R, 3, none⟩ u3
theorem set4_size (w : World) (R : Nat) (u0 u1 u2 u3 : Value) : (set4 w R u0 u1 u2 u3).heap.size = w.heap.size := by unfold set4; rw [size_setCell, size_setCell, size_setCell, size_setCell]
theorem set4_below {B : Nat} {a w : World} {R : Nat} {u0 u1 u2 u3 : Value} (h : Below B a w) (hR : B ≤ R) : Below B a (set4 w R u0 u1 u2 u3) :=
  (((h.setCell (p := ⟨R, 0, none⟩) hR u0).setCell (p := ⟨R, 1, none⟩) hR u1).setCell (p := ⟨R, 2, none⟩) hR u2).setCell (p := ⟨R, 3, none⟩) hR u3
theorem set4_same {S : Blocks} {w : World} {R : Nat} {u0 u1 u2 u3 : Value} (h : ¬ S R) : Same S w (set4 w R u0 u1 u2 u3) :=
  (((same_setCell (p := ⟨R, 0, none⟩) h u0).setCell (p := ⟨R, 1, none⟩) h u1).setCell (p := ⟨R, 2, none⟩) h u2).setCell (p := ⟨R, 3, none⟩) h u3
/-- all that was there is as it was, but for block R -/
abbrev StayX (R : Nat) (W w' : World) : Prop :=
  (∀ p : Addr, p.block < W.heap.size → p.block ≠ R → w'.cell? p = W.cell? p) ∧ (∀ p : Addr, p.block < W.heap.size → w'.frozen? p = W.frozen? p) ∧ But (Is R) W w'
theorem StayX.of_stay {R : Nat} {W w' : World} (h : Stay W w') : StayX R W w' := ⟨fun p hp _ => h.1 p hp, fun p hp => h.2.1 p hp, But.of_below h.below⟩
theorem StayX.set {R o : Nat} {W w' : World} (h : StayX R W w') (u : Value) : StayX R W (w'.setCell ⟨R, o, none⟩ u) :=
  ⟨fun p hp hn => (World.cell?_setCell_other w' ⟨R, o, none⟩ p u (fun e => hn (by rw [← e]))).trans (h.1 p hp hn), fun p hp => by rw [World.frozen?_setCell]; exact h.2.1 p hp, h.2.2.setCell (p := ⟨R, o, none⟩) rfl u⟩
theorem StayX.drew {R : Nat} {W w' : World} (h : StayX R W w') : StayX R W w'.drew := ⟨h.1, h.2.1, h.2.2.drew⟩
theorem StayX.alloc {R : Nat} {W w' : World} (h : StayX R W w') (o : Obj) : StayX R W (w'.alloc o) := by
  refine ⟨fun p hp hn => ?_, fun p hp => ?_, h.2.2.alloc o⟩
  · rw [World.cell?_alloc_lt w' o p (Nat.lt_of_lt_of_le hp h.2.2.size)]; exact h.1 p hp hn
  · have hb := (Below.refl w'.heap.size w').alloc (Nat.le_refl _) o
    rw [hb.frozen (Nat.lt_of_lt_of_le hp h.2.2.size)]; exact h.2.1 p hp
theorem set4_cells {w : World} {R : Nat} {v0 v1 v2 v3 : Value} (u0 u1 u2 u3 : Value) (h0 : w.cell? ⟨R, 0, none⟩ = some v0) (h1 : w.cell? ⟨R, 1, none⟩ = some v1) (h2 : w.cell? ⟨R, 2, none⟩ = some v2) (h3 : w.cell? ⟨R, 3, none⟩ = some v3) :
    (set4 w R u0 u1 u2 u3).cell? ⟨R, 0, none⟩ = some u0 ∧ (set4 w R u0 u1 u2 u3).cell? ⟨R, 1, none⟩ = some u1 ∧ (set4 w R u0 u1 u2 u3).cell? ⟨R, 2, none⟩ = some u2 ∧ (set4 w R u0 u1 u2 u3).cell? ⟨R, 3, none⟩ = some u3 := by
  unfold set4
  refine ⟨?_, ?_, ?_, ?_⟩
  · rw [World.cell?_setCell_other _ _ _ _ (by simp), World.cell?_setCell_other _ _ _ _ (by simp), World.cell?_setCell_other _ _ _ _ (by simp)]
    exact World.cell?_setCell_same' _ _ _ (by rw [h0]; rfl)
  · rw [World.cell?_setCell_other _ _ _ _ (by simp), World.cell?_setCell_other _ _ _ _ (by simp)]
    exact World.cell?_setCell_same' _ _ _ (by rw [World.cell?_setCell_other _ _ _ _ (by simp), h1]; rfl)
  · rw [World.cell?_setCell_other _ _ _ _ (by simp)]
    exact World.cell?_setCell_same' _ _ _ (by rw [World.cell?_setCell_other _ _ _ _ (by simp), World.cell?_setCell_other _ _ _ _ (by simp), h2]; rfl)
  · exact World.cell?_setCell_same' _ _ _ (by rw [World.cell?_setCell_other _ _ _ _ (by simp), World.cell?_setCell_other _ _ _ _ (by simp), World.cell?_setCell_other _ _ _ _ (by simp), h3]; rfl)
theorem set4_blk {base R : Nat} {w : World} {v0 v1 v2 v3 : Value} (h : Blk base w R [v0, v1, v2, v3]) (u0 u1 u2 u3 : Value) : Blk base (set4 w R u0 u1 u2 u3) R [u0, u1, u2, u3] := by
  have h0 := h.set (i := 0) (by simp) u0
  have h1 := h0.set (i := 1) (by simp) u1
  have h2 := h1.set (i := 2) (by simp) u2
  exact h2.set (i := 3) (by simp) u3
theorem set4_but {T : Blocks} {a w : World} {R : Nat} (h : But T a w) (hR : T R ∨ a.heap.size ≤ R) (u0 u1 u2 u3 : Value) : But T a (set4 w R u0 u1 u2 u3) :=
  (((h.setNew (p := ⟨R, 0, none⟩) hR u0).setNew (p := ⟨R, 1, none⟩) hR u1).setNew (p := ⟨R, 2, none⟩) hR u2).setNew (p := ⟨R, 3, none⟩) hR u3
end Go.Proofs.YtijahadmaggncaaDoor
