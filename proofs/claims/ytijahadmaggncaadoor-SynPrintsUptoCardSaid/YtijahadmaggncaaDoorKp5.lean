/- The walk of the reference's kfields. -/
import Derived.Test.YtijahadmaggncaaDoorKp2
namespace Go.Proofs.YtijahadmaggncaaDoor
open Go.RowKit
set_option linter.unusedVariables false
/-- behind q signs: the words that are done, and the one at hand -/
def fieldsQ (s : Str) : Nat → List Str × Str
  | 0 => ([], ⟨#[]⟩)
  | q + 1 => if s.data.toList[q]? = some 32 then ((fieldsQ s q).1 ++ [(fieldsQ s q).2], ⟨#[]⟩) else ((fieldsQ s q).1, (fieldsQ s q).2 ++ s.extract q (q + 1))
def fieldsF (s : Str) : List Str := (fieldsQ s s.size).1 ++ [(fieldsQ s s.size).2]
theorem own_set1 {w : World} {base g n cap : Nat} {l : List Str} (h : OwnT w base l (.slice (some ⟨g, 0, none⟩) n cap)) {q : Nat} (hq : q < l.length) (x : Str) (hx : okS x) : OwnT (w.setCell ⟨g, q, none⟩ (.string x)) base (l.set q x) (.slice (some ⟨g, 0, none⟩) n cap) :=
  OwnL.set1 (f := fun (x : Str) => Value.string x) (ok := okS) h hq x hx
set_option maxHeartbeats 2000000 in
set_option maxRecDepth 100000 in
theorem kfields_any (s : Str) (hs : s.size ≤ 1000) (w : World) :
    Calls Tryd.prog 67 #[.string s] w fun e w' => ∃ x, e = .returned x ∧ OwnT w' w.heap.size (fieldsF s) x ∧ Below w.heap.size w w' := by
  obtain ⟨i0, hi, hz0, hz1, hz2⟩ := info_parts infoStr
  have HLN := Lib.hid (show s.data.toList.length = s.size from Array.length_toList)
  have HL0 := Lib.hid (show OwnT (w.alloc (.cells #[.string ⟨#[]⟩] 9)) w.heap.size [⟨#[]⟩] (.slice (some ⟨w.heap.size, 0, none⟩) 1 1) from OwnT.lit1 ⟨#[]⟩ (by unfold okS; decide) (Nat.le_refl _))
  have hb0 : Below w.heap.size w (w.alloc (.cells #[.string ⟨#[]⟩] 9)) := (Below.refl _ _).alloc (Nat.le_refl _) _
  go_enter Tryd.func67, Tryd.ntmps67
  go_wp2_with fail
  generalize (w.alloc (.cells #[.string ⟨#[]⟩] 9)) = W at *
  go_loopw [3, 8] (fun o u wr => ∃ (i : Nat) (out : List Str) (y : Str), u = .int .i64 (i : Int) ∧ i ≤ s.size ∧ out.length ≤ i ∧ y.size ≤ i ∧ Hid (fieldsQ s i = (out, y)) ∧ Hid (OwnT wr w.heap.size (out ++ [y]) o) ∧ Below w.heap.size w wr) (fun _ u _ => s.size - (intOf u).toNat)
  case atStart => exact ⟨0, [], ⟨#[]⟩, rfl, Nat.zero_le _, Nat.le_refl _, Nat.le_refl _, Lib.hid rfl, HL0, hb0⟩
  case round =>
    clear HL0 hb0
    obtain ⟨i, out, y, rfl, hi1, hol, hyl, HQ, HO, hb⟩ := hrel
    have hsz := hb.size
    by_cases hlt : i < s.size
    · have HG := Lib.hid (show s.data.toList[i]? = some (s[i]'hlt) by
        rw [List.getElem?_eq_getElem (by rw [HLN.out]; exact hlt), Array.getElem_toList]; rfl)
      by_cases h32 : s[i]'hlt = 32
      · have HQ2 := Lib.hid (show fieldsQ s (i + 1) = (out ++ [y], ⟨#[]⟩) by rw [fieldsQ, HG.out, h32, if_pos rfl, HQ.out])
        have bl : Below wr.heap.size wr (wr.alloc (.cells #[.string ⟨#[]⟩] 9)) := (Below.refl _ _).alloc (Nat.le_refl _) _
        have O1 := Lib.hid (show OwnT (wr.alloc (.cells #[.string ⟨#[]⟩] 9)) w.heap.size (out ++ [y]) _ from HO.out.keep Flat.keeps bl)
        have R1 := Lib.hid (show RdSs (wr.alloc (.cells #[.string ⟨#[]⟩] 9)) (fun _ => True) [⟨#[]⟩] (.slice (some ⟨wr.heap.size, 0, none⟩) 1 1) from rd_lit ⟨#[]⟩ (by unfold okS; decide))
        have B1 := Lib.hid (hb.trans (bl.mono hsz))
        have hz1' := B1.out.size
        have h32' : ((s[i]'hlt).toNat : Int) = 32 := by rw [h32]; rfl
        clear bl HO hb h32
        go_wp2_with (at_builtin; generalize (wr.alloc (.cells #[.string ⟨#[]⟩] 9)) = W2 at *; refine wpList_append_list rfl _ _ 50 rfl i0 _ Tryd.underlying50 hi hz0 hz1 hz2 rfl (by decide) Flat.keeps O1.out (R1.out.bare Nowhere) rfl rfl (Sub.nowhere _) (Sub.nowhere _) not_nowhere oneS ?c3 ?c4 ?c5 ?_)
        case c3 => simp only [List.length_append, List.length_cons, List.length_nil]; unfold maxLen; omega
        case c4 => simp only [List.length_append, List.length_cons, List.length_nil]; omega
        try (case c5 => exact hz1')
        intro v2 w2 ho hg hk2
        have HO2 := Lib.hid (show OwnT w2 w.heap.size ((out ++ [y]) ++ [⟨#[]⟩]) v2 from by first | exact ho | (rw [List.append_assoc]; exact ho))
        have HB2 := B1.out.grown hg hz1' (fun g hg => (O1.out.lt g hg).1)
        clear ho hg hk2 O1 B1 R1
        go_wp2_with fail
        go_roundw
        case rel => exact ⟨i + 1, out ++ [y], ⟨#[]⟩, by go_num, by omega, by simp only [List.length_append, List.length_cons, List.length_nil]; omega, Nat.zero_le _, HQ2, HO2, HB2⟩
        case measure => simp [intOf]; omega
      · have HQ2 := Lib.hid (show fieldsQ s (i + 1) = (out, y ++ s.extract i (i + 1)) by rw [fieldsQ, HG.out, if_neg (fun e => h32 (Option.some.inj e)), HQ.out])
        have hne : 0 < (out ++ [y]).length := by simp
        obtain ⟨g, cap, rfl, hgb, hgl, hcl, hcm, hfr, hat⟩ := OwnL.flat HO.out hne
        have hql : out.length < (out ++ [y]).length := by simp
        have h1 := (hat out.length hql).2 0 _ rfl
        have e2 : (out ++ [y])[out.length]'hql = y := List.getElem_concat_length rfl _
        rw [e2, Nat.mul_one, Nat.add_zero] at h1
        have HAT := Lib.hid h1
        have hf := hfr out.length
        have hll : (out ++ [y]).length = out.length + 1 := by simp
        have HO1 := Lib.hid (show OwnT wr w.heap.size (out ++ [y]) (.slice (some ⟨g, 0, none⟩) (out.length + 1) cap) by have h := HO.out; rw [hll] at h; exact h)
        unfold maxLen at hcm
        rw [hll] at hcl ⊢
        have h32' : ((s[i]'hlt).toNat : Int) ≠ 32 := fun e => h32 (by
          have : (s[i]'hlt).toNat = 32 := by omega
          exact UInt8.toNat_inj.1 this)
        have h32b : (((s[i]'hlt).toNat : Int) == 32) = false := by simpa using h32'
        have hxs : (s.extract i (i + 1)).size = 1 := by rw [ByteArray.size_extract]; omega
        obtain ⟨z, hz⟩ : ∃ z, z = y ++ s.extract i (i + 1) := ⟨_, rfl⟩
        have hzs : z.size ≤ i + 1 := by rw [hz, ByteArray.size_append, hxs]; omega
        have hy1 : y.size + 1 ≤ 9223372036854775807 := by omega
        rw [← hz] at HQ2
        have HZZ := Lib.hid hz.symm
        clear hz hfr hat h1 e2 HO hne hql hll h32 h32'
        have HO3 := Lib.hid (show OwnT (wr.setCell ⟨g, out.length, none⟩ (.string z)).drew w.heap.size (out ++ [z]) (.slice (some ⟨g, 0, none⟩) (out.length + 1) cap) by
          have h := own_set1 HO1.out (q := out.length) (by simp) z (by unfold okS; omega)
          rw [show (out ++ [y]).set out.length z = out ++ [z] by rw [List.set_append_right _ _ (Nat.le_refl _), Nat.sub_self]; rfl] at h
          exact h.keep Flat.keeps (Below.refl _ _).drew)
        have HB3 := Lib.hid (show Below w.heap.size w (wr.setCell ⟨g, out.length, none⟩ (.string z)).drew from (hb.setCell (p := ⟨g, out.length, none⟩) hgb _).drew)
        clear hb HO1
        have h1 := HAT.out
        go_wp2_with fail
        go_region
        rw [HZZ.out]
        generalize (wr.setCell ⟨g, out.length, none⟩ (.string z)).drew = W3 at *
        clear h1 hf
        go_wp2_with fail
        go_roundw
        case rel => exact ⟨i + 1, out, z, by go_num, by omega, by omega, hzs, HQ2, HO3, HB3.out⟩
        case measure => simp [intOf]; omega
    · have hie : i = s.size := by omega
      subst hie
      have HX := Lib.hid (show fieldsF s = out ++ [y] by unfold fieldsF; rw [HQ.out])
      obtain ⟨A9, c9, rfl⟩ := HO.out.form
      go_wp2
      go_ret
      exact ⟨_, rfl, by rw [HX.out]; exact HO.out, hb⟩
end Go.Proofs.YtijahadmaggncaaDoor
