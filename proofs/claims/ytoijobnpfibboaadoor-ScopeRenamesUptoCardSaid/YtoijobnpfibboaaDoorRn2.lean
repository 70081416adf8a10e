/- The walk of the renamer's bind. -/
import Derived.Test.YtoijobnpfibboaaDoorRn1
import Derived.Test.YtoijobnpfibboaaDoorRegInv
import Derived.BigQuiet
import Derived.BigRegion
namespace Go.Proofs.YtoijobnpfibboaaDoor
open Go.RowKit
set_option linter.unusedVariables false
/-- the renamer: block z, the old names and the new ones, how many there were -/
def RmAt (base z : Nat) (w : World) (V : Env) (m : Nat) (vo vn : Value) : Prop := Two base z w vo vn w (V.map (·.1)).reverse (V.map (·.2)).reverse vo vn vo vn (m : Int)
set_option maxHeartbeats 4000000 in
set_option maxRecDepth 100000 in
theorem bind_any (base z : Nat) (w : World) (V : Env) (m : Nat) (vo vn : Value) (s : Str) (hs : okS s) (hT : PowT w) (h : RmAt base z w V m vo vn) (hb : base ≤ w.heap.size) (hm : m ≤ 1073741824) (hV : V.length ≤ 1073741000) :
    Calls Tryd.prog 12 #[.pointer (some ⟨z, 0, none⟩), .string s] w fun e w' => e = .returned (.string (vN m)) ∧ ∃ vo' vn', Two base z w vo vn w' ((V.map (·.1)).reverse ++ [s]) ((V.map (·.2)).reverse ++ [vN m]) vo' vn' vo' vn' ((m + 1 : Nat) : Int) := by
  unfold RmAt at h
  have hlo : (V.map (·.1)).reverse.length = V.length := by simp
  have hln : (V.map (·.2)).reverse.length = V.length := by simp
  have hvs := vN_size m (by omega)
  have HVN := Lib.hid (show vN m = (⟨#[118]⟩ : ByteArray) ++ ⟨(Lib.itoa (m : Int)).toArray⟩ from by
    unfold vN
    apply ByteArray.ext
    rw [ByteArray.data_append]
    simp)
  generalize (V.map (·.1)).reverse = lo at h hlo ⊢
  generalize (V.map (·.2)).reverse = ln at h hln ⊢
  have T0 := Lib.hid h
  have c2 := h.bl.cell 2 _ rfl
  have hzl := h.bl.lt
  obtain ⟨Ao, co, rfl⟩ := h.oo.form
  obtain ⟨An, cn, rfl⟩ := h.on.form
  clear h
  have HIT := Lib.hid (itoa_n (m : Int) (by omega) (by omega) w hT)
  have hsz : (⟨(Lib.itoa (m : Int)).toArray⟩ : ByteArray).size ≤ 29 := by
    have := hvs
    rw [HVN.out, ByteArray.size_append] at this
    have h1 : (⟨#[118]⟩ : ByteArray).size = 1 := rfl
    omega
  generalize (⟨(Lib.itoa (m : Int)).toArray⟩ : ByteArray) = y at HVN HIT hsz
  have hy1 : 1 + y.size ≤ 9223372036854775807 := by omega
  generalize vN m = to_ at HVN hvs ⊢
  go_enter Tryd.func12, Tryd.ntmps12
  go_wp2_with (go_at_call 14; refine HIT.out.mono ?_)
  rintro e w1 ⟨rfl, hb1⟩
  have T1 := Lib.hid (T0.out.below hb1)
  have d2 := T1.out.bl.cell 2 _ rfl
  have f2 := T1.out.bl.fr 2
  clear hb1 T0 HIT c2
  have hmw : IntKind.i64.wrap ((m : Int) + 1) = (m : Int) + 1 := IntWalk.i64_in _ (by omega)
  have hmw2 : wrap64 ((m : Int) + 1) = (m : Int) + 1 := IntWalk.wrap64_in _ (by omega)
  have T2 := Lib.hid (T1.out.set (i := 2) (by decide) (.int .i64 ((m : Int) + 1)) _ _ ((m : Int) + 1) rfl)
  go_upto_region 3 with (fail)
  rw [← HVN.out]
  clear d2 f2 T1 hmw hmw2 hT
  have hbz : base ≤ w.heap.size := hb
  generalize w1.setCell ⟨z, 2, none⟩ (.int .i64 ((m : Int) + 1)) = W2 at *
  have hz2 := T2.out.bl.lt
  have k0 := T2.out.bl.cell 0 _ rfl
  have k1 := T2.out.bl.cell 1 _ rfl
  have HL1 := Lib.hid (show lo.length + 1 ≤ 1073741824 by omega)
  have HL2 := Lib.hid (show ln.length + 1 ≤ 1073741824 by omega)
  have HOK := Lib.hid hs
  have HOT := Lib.hid (show okS to_ by unfold okS; omega)
  clear hs hlo hln
  obtain ⟨I, hI⟩ : ∃ I : Array Bool → Act → World → Prop, I = (fun (l : Array Bool) (a : Act) (wx : World) => ∃ (u19 u20 u21 u22 u23 u24 u25 u26 u27 u28 u29 u30 u31 u32 u33 u34 u35 u36 u37 u38 : Value) (yo yn x0 x1 : Value), a = ⟨#[.pointer (some ⟨z, 0, none⟩), .string s, undef, undef, .string { data := #[] }, .string to_, .pointer (some ⟨z, 0, none⟩), .pointer (some ⟨z, 0, none⟩), .pointer (some ⟨z, 2, none⟩), .int .i64 (m : Int), .string y, .string to_, .pointer (some ⟨z, 0, none⟩), .pointer (some ⟨z, 0, none⟩), .pointer (some ⟨z, 2, none⟩), .int .i64 (m : Int), .int .i64 ((m : Int) + 1), .pointer (some ⟨z, 0, none⟩), .pointer (some ⟨z, 2, none⟩), u19, u20, u21, u22, u23, u24, u25, u26, u27, u28, u29, u30, u31, u32, u33, u34, u35, u36, u37, u38, undef], []⟩ ∧ Hid (Two base z w (.slice Ao lo.length co) (.slice An ln.length cn) wx (if l.getD 8 false = true then lo ++ [s] else lo) (if l.getD 15 false = true then ln ++ [to_] else ln) yo yn x0 x1 ((m : Int) + 1)) ∧ Hid (l.getD 8 false = false → yo = .slice Ao lo.length co) ∧ Hid (l.getD 15 false = false → yn = .slice An ln.length cn) ∧ Hid (l.getD 18 false = false → x0 = .slice Ao lo.length co) ∧ Hid (l.getD 18 false = true → x0 = yo) ∧ Hid (l.getD 21 false = false → x1 = .slice An ln.length cn) ∧ Hid (l.getD 21 false = true → x1 = yn) ∧ Hid (l.getD 7 false = true → l.getD 8 false = false → ∃ A n k, u26 = .slice A n k ∧ FrN yo yn wx [s] u26) ∧ Hid (l.getD 14 false = true → l.getD 15 false = false → ∃ A n k, u33 = .slice A n k ∧ FrN yo yn wx [to_] u33) ∧ Hid (l.getD 0 false = true → u19 = .pointer (some ⟨z, 0, none⟩)) ∧ Hid (l.getD 1 false = true → u20 = .pointer (some ⟨z, 0, none⟩)) ∧ Hid (l.getD 2 false = true → u21 = .pointer (some ⟨z, 0, none⟩)) ∧ Hid (l.getD 3 false = true → u22 = .pointer (some ⟨z, 0, none⟩)) ∧ Hid (l.getD 4 false = true → u23 = .pointer (some ⟨z, 0, none⟩)) ∧ Hid (l.getD 5 false = true → u24 = .slice Ao lo.length co) ∧ Hid (l.getD 6 false = true → u25 = .string s) ∧ Hid (l.getD 8 false = true → u27 = yo) ∧ Hid (l.getD 9 false = true → u28 = .pointer (some ⟨z, 0, none⟩)) ∧ Hid (l.getD 10 false = true → u29 = .pointer (some ⟨z, 0, none⟩)) ∧ Hid (l.getD 11 false = true → u30 = .pointer (some ⟨z, 1, none⟩)) ∧ Hid (l.getD 12 false = true → u31 = .slice An ln.length cn) ∧ Hid (l.getD 13 false = true → u32 = .string to_) ∧ Hid (l.getD 15 false = true → u34 = yn) ∧ Hid (l.getD 16 false = true → u35 = .pointer (some ⟨z, 0, none⟩)) ∧ Hid (l.getD 17 false = true → u36 = .pointer (some ⟨z, 0, none⟩)) ∧ Hid (l.getD 19 false = true → u37 = .pointer (some ⟨z, 0, none⟩)) ∧ Hid (l.getD 20 false = true → u38 = .pointer (some ⟨z, 1, none⟩))) := ⟨_, rfl⟩
  have HI := Lib.hid hI
  clear hI
  refine wp_region_invC (by kernel_rfl) I ?_ ?_ ?_ ?_
  · rw [HI.out]
    exact ⟨undef, undef, undef, undef, undef, undef, undef, undef, undef, undef, undef, undef, undef, undef, undef, undef, undef, undef, undef, undef, _, _, _, _, rfl, Lib.hid (by simpa using T2.out.drew), Lib.hid (fun _ => rfl), Lib.hid (fun _ => rfl), Lib.hid (fun _ => rfl), Lib.hid (fun h => by simp at h), Lib.hid (fun _ => rfl), Lib.hid (fun h => by simp at h), Lib.hid (fun h => by simp at h), Lib.hid (fun h => by simp at h), Lib.hid (fun h => by simp at h), Lib.hid (fun h => by simp at h), Lib.hid (fun h => by simp at h), Lib.hid (fun h => by simp at h), Lib.hid (fun h => by simp at h), Lib.hid (fun h => by simp at h), Lib.hid (fun h => by simp at h), Lib.hid (fun h => by simp at h), Lib.hid (fun h => by simp at h), Lib.hid (fun h => by simp at h), Lib.hid (fun h => by simp at h), Lib.hid (fun h => by simp at h), Lib.hid (fun h => by simp at h), Lib.hid (fun h => by simp at h), Lib.hid (fun h => by simp at h), Lib.hid (fun h => by simp at h), Lib.hid (fun h => by simp at h), Lib.hid (fun h => by simp at h)⟩
  · intro l a wx i hl hc hI0 hi hn hd
    rw [HI.out] at hI0
    obtain ⟨u19, u20, u21, u22, u23, u24, u25, u26, u27, u28, u29, u30, u31, u32, u33, u34, u35, u36, u37, u38, yo, yn, x0, x1, rfl, hT, h8, h15, h18, h18t, h21, h21t, h7, h14, f0, f1, f2, f3, f4, f5, f6, f8, f9, f10, f11, f12, f13, f15, f16, f17, f19, f20⟩ := hI0
    have hs : ∀ j, (l.setIfInBounds i true).getD j false = if i = j then true else l.getD j false := fun j => getD_set (by omega)
    have hk : ∀ j, i ≠ j → (l.setIfInBounds i true).getD j false = l.getD j false := fun j h => by rw [hs, if_neg h]
    replace hi : i < 22 := hi
    have hcase : i = 0 ∨ i = 1 ∨ i = 2 ∨ i = 3 ∨ i = 4 ∨ i = 5 ∨ i = 6 ∨ i = 7 ∨ i = 8 ∨ i = 9 ∨ i = 10 ∨ i = 11 ∨ i = 12 ∨ i = 13 ∨ i = 14 ∨ i = 15 ∨ i = 16 ∨ i = 17 ∨ i = 18 ∨ i = 19 ∨ i = 20 ∨ i = 21 := by omega
    rcases hcase with rfl | rfl | rfl | rfl | rfl | rfl | rfl | rfl | rfl | rfl | rfl | rfl | rfl | rfl | rfl | rfl | rfl | rfl | rfl | rfl | rfl | rfl
    · skip
      refine wpOp_of_list (by rfl) ?_
      go_wp2_with fail
      show I _ _ _
      rw [HI.out]
      exact ⟨_, _, _, _, _, _, _, _, _, _, _, _, _, _, _, _, _, _, _, _, _, _, _, _, rfl, Lib.hid (by rw [hk 8 (by decide), hk 15 (by decide)]; exact hT.out), Lib.hid (fun h => h8.out (by rwa [hk 8 (by decide)] at h)), Lib.hid (fun h => h15.out (by rwa [hk 15 (by decide)] at h)), Lib.hid (fun h => h18.out (by rwa [hk 18 (by decide)] at h)), Lib.hid (fun h => h18t.out (by rwa [hk 18 (by decide)] at h)), Lib.hid (fun h => h21.out (by rwa [hk 21 (by decide)] at h)), Lib.hid (fun h => h21t.out (by rwa [hk 21 (by decide)] at h)), Lib.hid (fun h h' => h7.out (by rwa [hk 7 (by decide)] at h) (by rwa [hk 8 (by decide)] at h')), Lib.hid (fun h h' => h14.out (by rwa [hk 14 (by decide)] at h) (by rwa [hk 15 (by decide)] at h')), Lib.hid (fun _ => rfl), Lib.hid (fun h => f1.out (by rwa [hk 1 (by decide)] at h)), Lib.hid (fun h => f2.out (by rwa [hk 2 (by decide)] at h)), Lib.hid (fun h => f3.out (by rwa [hk 3 (by decide)] at h)), Lib.hid (fun h => f4.out (by rwa [hk 4 (by decide)] at h)), Lib.hid (fun h => f5.out (by rwa [hk 5 (by decide)] at h)), Lib.hid (fun h => f6.out (by rwa [hk 6 (by decide)] at h)), Lib.hid (fun h => f8.out (by rwa [hk 8 (by decide)] at h)), Lib.hid (fun h => f9.out (by rwa [hk 9 (by decide)] at h)), Lib.hid (fun h => f10.out (by rwa [hk 10 (by decide)] at h)), Lib.hid (fun h => f11.out (by rwa [hk 11 (by decide)] at h)), Lib.hid (fun h => f12.out (by rwa [hk 12 (by decide)] at h)), Lib.hid (fun h => f13.out (by rwa [hk 13 (by decide)] at h)), Lib.hid (fun h => f15.out (by rwa [hk 15 (by decide)] at h)), Lib.hid (fun h => f16.out (by rwa [hk 16 (by decide)] at h)), Lib.hid (fun h => f17.out (by rwa [hk 17 (by decide)] at h)), Lib.hid (fun h => f19.out (by rwa [hk 19 (by decide)] at h)), Lib.hid (fun h => f20.out (by rwa [hk 20 (by decide)] at h))⟩
    · skip
      refine wpOp_of_list (by rfl) ?_
      go_wp2_with fail
      show I _ _ _
      rw [HI.out]
      exact ⟨_, _, _, _, _, _, _, _, _, _, _, _, _, _, _, _, _, _, _, _, _, _, _, _, rfl, Lib.hid (by rw [hk 8 (by decide), hk 15 (by decide)]; exact hT.out), Lib.hid (fun h => h8.out (by rwa [hk 8 (by decide)] at h)), Lib.hid (fun h => h15.out (by rwa [hk 15 (by decide)] at h)), Lib.hid (fun h => h18.out (by rwa [hk 18 (by decide)] at h)), Lib.hid (fun h => h18t.out (by rwa [hk 18 (by decide)] at h)), Lib.hid (fun h => h21.out (by rwa [hk 21 (by decide)] at h)), Lib.hid (fun h => h21t.out (by rwa [hk 21 (by decide)] at h)), Lib.hid (fun h h' => h7.out (by rwa [hk 7 (by decide)] at h) (by rwa [hk 8 (by decide)] at h')), Lib.hid (fun h h' => h14.out (by rwa [hk 14 (by decide)] at h) (by rwa [hk 15 (by decide)] at h')), Lib.hid (fun h => f0.out (by rwa [hk 0 (by decide)] at h)), Lib.hid (fun _ => rfl), Lib.hid (fun h => f2.out (by rwa [hk 2 (by decide)] at h)), Lib.hid (fun h => f3.out (by rwa [hk 3 (by decide)] at h)), Lib.hid (fun h => f4.out (by rwa [hk 4 (by decide)] at h)), Lib.hid (fun h => f5.out (by rwa [hk 5 (by decide)] at h)), Lib.hid (fun h => f6.out (by rwa [hk 6 (by decide)] at h)), Lib.hid (fun h => f8.out (by rwa [hk 8 (by decide)] at h)), Lib.hid (fun h => f9.out (by rwa [hk 9 (by decide)] at h)), Lib.hid (fun h => f10.out (by rwa [hk 10 (by decide)] at h)), Lib.hid (fun h => f11.out (by rwa [hk 11 (by decide)] at h)), Lib.hid (fun h => f12.out (by rwa [hk 12 (by decide)] at h)), Lib.hid (fun h => f13.out (by rwa [hk 13 (by decide)] at h)), Lib.hid (fun h => f15.out (by rwa [hk 15 (by decide)] at h)), Lib.hid (fun h => f16.out (by rwa [hk 16 (by decide)] at h)), Lib.hid (fun h => f17.out (by rwa [hk 17 (by decide)] at h)), Lib.hid (fun h => f19.out (by rwa [hk 19 (by decide)] at h)), Lib.hid (fun h => f20.out (by rwa [hk 20 (by decide)] at h))⟩
    · skip
      refine wpOp_of_list (by rfl) ?_
      go_wp2_with fail
      show I _ _ _
      rw [HI.out]
      exact ⟨_, _, _, _, _, _, _, _, _, _, _, _, _, _, _, _, _, _, _, _, _, _, _, _, rfl, Lib.hid (by rw [hk 8 (by decide), hk 15 (by decide)]; exact hT.out), Lib.hid (fun h => h8.out (by rwa [hk 8 (by decide)] at h)), Lib.hid (fun h => h15.out (by rwa [hk 15 (by decide)] at h)), Lib.hid (fun h => h18.out (by rwa [hk 18 (by decide)] at h)), Lib.hid (fun h => h18t.out (by rwa [hk 18 (by decide)] at h)), Lib.hid (fun h => h21.out (by rwa [hk 21 (by decide)] at h)), Lib.hid (fun h => h21t.out (by rwa [hk 21 (by decide)] at h)), Lib.hid (fun h h' => h7.out (by rwa [hk 7 (by decide)] at h) (by rwa [hk 8 (by decide)] at h')), Lib.hid (fun h h' => h14.out (by rwa [hk 14 (by decide)] at h) (by rwa [hk 15 (by decide)] at h')), Lib.hid (fun h => f0.out (by rwa [hk 0 (by decide)] at h)), Lib.hid (fun h => f1.out (by rwa [hk 1 (by decide)] at h)), Lib.hid (fun _ => rfl), Lib.hid (fun h => f3.out (by rwa [hk 3 (by decide)] at h)), Lib.hid (fun h => f4.out (by rwa [hk 4 (by decide)] at h)), Lib.hid (fun h => f5.out (by rwa [hk 5 (by decide)] at h)), Lib.hid (fun h => f6.out (by rwa [hk 6 (by decide)] at h)), Lib.hid (fun h => f8.out (by rwa [hk 8 (by decide)] at h)), Lib.hid (fun h => f9.out (by rwa [hk 9 (by decide)] at h)), Lib.hid (fun h => f10.out (by rwa [hk 10 (by decide)] at h)), Lib.hid (fun h => f11.out (by rwa [hk 11 (by decide)] at h)), Lib.hid (fun h => f12.out (by rwa [hk 12 (by decide)] at h)), Lib.hid (fun h => f13.out (by rwa [hk 13 (by decide)] at h)), Lib.hid (fun h => f15.out (by rwa [hk 15 (by decide)] at h)), Lib.hid (fun h => f16.out (by rwa [hk 16 (by decide)] at h)), Lib.hid (fun h => f17.out (by rwa [hk 17 (by decide)] at h)), Lib.hid (fun h => f19.out (by rwa [hk 19 (by decide)] at h)), Lib.hid (fun h => f20.out (by rwa [hk 20 (by decide)] at h))⟩
    · skip
      have d2 : l.getD 2 false = true := hd 2 (by decide)
      obtain rfl := f2.out d2
      refine wpOp_of_list (by rfl) ?_
      go_wp2_with fail
      show I _ _ _
      rw [HI.out]
      exact ⟨_, _, _, _, _, _, _, _, _, _, _, _, _, _, _, _, _, _, _, _, _, _, _, _, rfl, Lib.hid (by rw [hk 8 (by decide), hk 15 (by decide)]; exact hT.out), Lib.hid (fun h => h8.out (by rwa [hk 8 (by decide)] at h)), Lib.hid (fun h => h15.out (by rwa [hk 15 (by decide)] at h)), Lib.hid (fun h => h18.out (by rwa [hk 18 (by decide)] at h)), Lib.hid (fun h => h18t.out (by rwa [hk 18 (by decide)] at h)), Lib.hid (fun h => h21.out (by rwa [hk 21 (by decide)] at h)), Lib.hid (fun h => h21t.out (by rwa [hk 21 (by decide)] at h)), Lib.hid (fun h h' => h7.out (by rwa [hk 7 (by decide)] at h) (by rwa [hk 8 (by decide)] at h')), Lib.hid (fun h h' => h14.out (by rwa [hk 14 (by decide)] at h) (by rwa [hk 15 (by decide)] at h')), Lib.hid (fun h => f0.out (by rwa [hk 0 (by decide)] at h)), Lib.hid (fun h => f1.out (by rwa [hk 1 (by decide)] at h)), Lib.hid (fun _ => rfl), Lib.hid (fun _ => rfl), Lib.hid (fun h => f4.out (by rwa [hk 4 (by decide)] at h)), Lib.hid (fun h => f5.out (by rwa [hk 5 (by decide)] at h)), Lib.hid (fun h => f6.out (by rwa [hk 6 (by decide)] at h)), Lib.hid (fun h => f8.out (by rwa [hk 8 (by decide)] at h)), Lib.hid (fun h => f9.out (by rwa [hk 9 (by decide)] at h)), Lib.hid (fun h => f10.out (by rwa [hk 10 (by decide)] at h)), Lib.hid (fun h => f11.out (by rwa [hk 11 (by decide)] at h)), Lib.hid (fun h => f12.out (by rwa [hk 12 (by decide)] at h)), Lib.hid (fun h => f13.out (by rwa [hk 13 (by decide)] at h)), Lib.hid (fun h => f15.out (by rwa [hk 15 (by decide)] at h)), Lib.hid (fun h => f16.out (by rwa [hk 16 (by decide)] at h)), Lib.hid (fun h => f17.out (by rwa [hk 17 (by decide)] at h)), Lib.hid (fun h => f19.out (by rwa [hk 19 (by decide)] at h)), Lib.hid (fun h => f20.out (by rwa [hk 20 (by decide)] at h))⟩
    · skip
      have d3 : l.getD 3 false = true := hd 3 (by decide)
      obtain rfl := f3.out d3
      refine wpOp_of_list (by rfl) ?_
      go_wp2_with fail
      show I _ _ _
      rw [HI.out]
      exact ⟨_, _, _, _, _, _, _, _, _, _, _, _, _, _, _, _, _, _, _, _, _, _, _, _, rfl, Lib.hid (by rw [hk 8 (by decide), hk 15 (by decide)]; exact hT.out), Lib.hid (fun h => h8.out (by rwa [hk 8 (by decide)] at h)), Lib.hid (fun h => h15.out (by rwa [hk 15 (by decide)] at h)), Lib.hid (fun h => h18.out (by rwa [hk 18 (by decide)] at h)), Lib.hid (fun h => h18t.out (by rwa [hk 18 (by decide)] at h)), Lib.hid (fun h => h21.out (by rwa [hk 21 (by decide)] at h)), Lib.hid (fun h => h21t.out (by rwa [hk 21 (by decide)] at h)), Lib.hid (fun h h' => h7.out (by rwa [hk 7 (by decide)] at h) (by rwa [hk 8 (by decide)] at h')), Lib.hid (fun h h' => h14.out (by rwa [hk 14 (by decide)] at h) (by rwa [hk 15 (by decide)] at h')), Lib.hid (fun h => f0.out (by rwa [hk 0 (by decide)] at h)), Lib.hid (fun h => f1.out (by rwa [hk 1 (by decide)] at h)), Lib.hid (fun h => f2.out (by rwa [hk 2 (by decide)] at h)), Lib.hid (fun _ => rfl), Lib.hid (fun _ => rfl), Lib.hid (fun h => f5.out (by rwa [hk 5 (by decide)] at h)), Lib.hid (fun h => f6.out (by rwa [hk 6 (by decide)] at h)), Lib.hid (fun h => f8.out (by rwa [hk 8 (by decide)] at h)), Lib.hid (fun h => f9.out (by rwa [hk 9 (by decide)] at h)), Lib.hid (fun h => f10.out (by rwa [hk 10 (by decide)] at h)), Lib.hid (fun h => f11.out (by rwa [hk 11 (by decide)] at h)), Lib.hid (fun h => f12.out (by rwa [hk 12 (by decide)] at h)), Lib.hid (fun h => f13.out (by rwa [hk 13 (by decide)] at h)), Lib.hid (fun h => f15.out (by rwa [hk 15 (by decide)] at h)), Lib.hid (fun h => f16.out (by rwa [hk 16 (by decide)] at h)), Lib.hid (fun h => f17.out (by rwa [hk 17 (by decide)] at h)), Lib.hid (fun h => f19.out (by rwa [hk 19 (by decide)] at h)), Lib.hid (fun h => f20.out (by rwa [hk 20 (by decide)] at h))⟩
    · skip
      have d4 : l.getD 4 false = true := hd 4 (by decide)
      obtain rfl := f4.out d4
      have n18 : l.getD 18 false = false := by
        cases e : l.getD 18 false
        · rfl
        · have := hc 18 e 5 (by decide); rw [hn] at this; cases this
      obtain rfl := h18.out n18
      have k9 := hT.out.bl.cell 0 _ rfl
      refine wpOp_of_list (by rfl) ?_
      go_wp2_with fail
      show I _ _ _
      rw [HI.out]
      exact ⟨_, _, _, _, _, _, _, _, _, _, _, _, _, _, _, _, _, _, _, _, _, _, _, _, rfl, Lib.hid (by rw [hk 8 (by decide), hk 15 (by decide)]; exact hT.out), Lib.hid (fun h => h8.out (by rwa [hk 8 (by decide)] at h)), Lib.hid (fun h => h15.out (by rwa [hk 15 (by decide)] at h)), Lib.hid (fun _ => rfl), Lib.hid (fun h => h18t.out (by rwa [hk 18 (by decide)] at h)), Lib.hid (fun h => h21.out (by rwa [hk 21 (by decide)] at h)), Lib.hid (fun h => h21t.out (by rwa [hk 21 (by decide)] at h)), Lib.hid (fun h h' => h7.out (by rwa [hk 7 (by decide)] at h) (by rwa [hk 8 (by decide)] at h')), Lib.hid (fun h h' => h14.out (by rwa [hk 14 (by decide)] at h) (by rwa [hk 15 (by decide)] at h')), Lib.hid (fun h => f0.out (by rwa [hk 0 (by decide)] at h)), Lib.hid (fun h => f1.out (by rwa [hk 1 (by decide)] at h)), Lib.hid (fun h => f2.out (by rwa [hk 2 (by decide)] at h)), Lib.hid (fun h => f3.out (by rwa [hk 3 (by decide)] at h)), Lib.hid (fun _ => rfl), Lib.hid (fun _ => rfl), Lib.hid (fun h => f6.out (by rwa [hk 6 (by decide)] at h)), Lib.hid (fun h => f8.out (by rwa [hk 8 (by decide)] at h)), Lib.hid (fun h => f9.out (by rwa [hk 9 (by decide)] at h)), Lib.hid (fun h => f10.out (by rwa [hk 10 (by decide)] at h)), Lib.hid (fun h => f11.out (by rwa [hk 11 (by decide)] at h)), Lib.hid (fun h => f12.out (by rwa [hk 12 (by decide)] at h)), Lib.hid (fun h => f13.out (by rwa [hk 13 (by decide)] at h)), Lib.hid (fun h => f15.out (by rwa [hk 15 (by decide)] at h)), Lib.hid (fun h => f16.out (by rwa [hk 16 (by decide)] at h)), Lib.hid (fun h => f17.out (by rwa [hk 17 (by decide)] at h)), Lib.hid (fun h => f19.out (by rwa [hk 19 (by decide)] at h)), Lib.hid (fun h => f20.out (by rwa [hk 20 (by decide)] at h))⟩
    · skip
      refine wpOp_of_list (by rfl) ?_
      go_wp2_with fail
      show I _ _ _
      rw [HI.out]
      exact ⟨_, _, _, _, _, _, _, _, _, _, _, _, _, _, _, _, _, _, _, _, _, _, _, _, rfl, Lib.hid (by rw [hk 8 (by decide), hk 15 (by decide)]; exact hT.out), Lib.hid (fun h => h8.out (by rwa [hk 8 (by decide)] at h)), Lib.hid (fun h => h15.out (by rwa [hk 15 (by decide)] at h)), Lib.hid (fun h => h18.out (by rwa [hk 18 (by decide)] at h)), Lib.hid (fun h => h18t.out (by rwa [hk 18 (by decide)] at h)), Lib.hid (fun h => h21.out (by rwa [hk 21 (by decide)] at h)), Lib.hid (fun h => h21t.out (by rwa [hk 21 (by decide)] at h)), Lib.hid (fun h h' => h7.out (by rwa [hk 7 (by decide)] at h) (by rwa [hk 8 (by decide)] at h')), Lib.hid (fun h h' => h14.out (by rwa [hk 14 (by decide)] at h) (by rwa [hk 15 (by decide)] at h')), Lib.hid (fun h => f0.out (by rwa [hk 0 (by decide)] at h)), Lib.hid (fun h => f1.out (by rwa [hk 1 (by decide)] at h)), Lib.hid (fun h => f2.out (by rwa [hk 2 (by decide)] at h)), Lib.hid (fun h => f3.out (by rwa [hk 3 (by decide)] at h)), Lib.hid (fun h => f4.out (by rwa [hk 4 (by decide)] at h)), Lib.hid (fun h => f5.out (by rwa [hk 5 (by decide)] at h)), Lib.hid (fun _ => rfl), Lib.hid (fun h => f8.out (by rwa [hk 8 (by decide)] at h)), Lib.hid (fun h => f9.out (by rwa [hk 9 (by decide)] at h)), Lib.hid (fun h => f10.out (by rwa [hk 10 (by decide)] at h)), Lib.hid (fun h => f11.out (by rwa [hk 11 (by decide)] at h)), Lib.hid (fun h => f12.out (by rwa [hk 12 (by decide)] at h)), Lib.hid (fun h => f13.out (by rwa [hk 13 (by decide)] at h)), Lib.hid (fun h => f15.out (by rwa [hk 15 (by decide)] at h)), Lib.hid (fun h => f16.out (by rwa [hk 16 (by decide)] at h)), Lib.hid (fun h => f17.out (by rwa [hk 17 (by decide)] at h)), Lib.hid (fun h => f19.out (by rwa [hk 19 (by decide)] at h)), Lib.hid (fun h => f20.out (by rwa [hk 20 (by decide)] at h))⟩
    · skip
      have d6 : l.getD 6 false = true := hd 6 (by decide)
      obtain rfl := f6.out d6
      refine wpOp_of_list (by rfl) ?_
      go_wp2_with fail
      show I _ _ _
      rw [HI.out]
      exact ⟨_, _, _, _, _, _, _, _, _, _, _, _, _, _, _, _, _, _, _, _, _, _, _, _, rfl, Lib.hid (by rw [hk 8 (by decide), hk 15 (by decide)]; exact hT.out.alloc), Lib.hid (fun h => h8.out (by rwa [hk 8 (by decide)] at h)), Lib.hid (fun h => h15.out (by rwa [hk 15 (by decide)] at h)), Lib.hid (fun h => h18.out (by rwa [hk 18 (by decide)] at h)), Lib.hid (fun h => h18t.out (by rwa [hk 18 (by decide)] at h)), Lib.hid (fun h => h21.out (by rwa [hk 21 (by decide)] at h)), Lib.hid (fun h => h21t.out (by rwa [hk 21 (by decide)] at h)), Lib.hid (fun _ _ => ⟨_, _, _, rfl, frN_lit hT.out HOK.out rfl⟩), Lib.hid (fun h h' => by obtain ⟨A, n, k, e, hf⟩ := h14.out (by rwa [hk 14 (by decide)] at h) (by rwa [hk 15 (by decide)] at h'); exact ⟨A, n, k, e, hf.alloc⟩), Lib.hid (fun h => f0.out (by rwa [hk 0 (by decide)] at h)), Lib.hid (fun h => f1.out (by rwa [hk 1 (by decide)] at h)), Lib.hid (fun h => f2.out (by rwa [hk 2 (by decide)] at h)), Lib.hid (fun h => f3.out (by rwa [hk 3 (by decide)] at h)), Lib.hid (fun h => f4.out (by rwa [hk 4 (by decide)] at h)), Lib.hid (fun h => f5.out (by rwa [hk 5 (by decide)] at h)), Lib.hid (fun _ => rfl), Lib.hid (fun h => f8.out (by rwa [hk 8 (by decide)] at h)), Lib.hid (fun h => f9.out (by rwa [hk 9 (by decide)] at h)), Lib.hid (fun h => f10.out (by rwa [hk 10 (by decide)] at h)), Lib.hid (fun h => f11.out (by rwa [hk 11 (by decide)] at h)), Lib.hid (fun h => f12.out (by rwa [hk 12 (by decide)] at h)), Lib.hid (fun h => f13.out (by rwa [hk 13 (by decide)] at h)), Lib.hid (fun h => f15.out (by rwa [hk 15 (by decide)] at h)), Lib.hid (fun h => f16.out (by rwa [hk 16 (by decide)] at h)), Lib.hid (fun h => f17.out (by rwa [hk 17 (by decide)] at h)), Lib.hid (fun h => f19.out (by rwa [hk 19 (by decide)] at h)), Lib.hid (fun h => f20.out (by rwa [hk 20 (by decide)] at h))⟩
    · skip
      have d5 : l.getD 5 false = true := hd 5 (by decide)
      have d7 : l.getD 7 false = true := hd 7 (by decide)
      obtain rfl := f5.out d5
      have n15 : l.getD 15 false = false := by
        cases e : l.getD 15 false
        · rfl
        · have := hc 15 e 8 (by decide); rw [hn] at this; cases this
      have n18 : l.getD 18 false = false := by
        cases e : l.getD 18 false
        · rfl
        · have := hc 18 e 8 (by decide); rw [hn] at this; cases this
      obtain rfl := h8.out hn
      obtain ⟨A, n, k, rfl, hf⟩ := h7.out d7 hn
      have T9 := hT.out
      rw [hn, n15, if_neg (by simp), if_neg (by simp)] at T9
      refine wpOp_of_law (by rfl) (step_two_o (by rfl) (.tmp 24) (.tmp 26) (by rfl) (by rfl) (by rfl) s T9 hf.fr HL1.out hbz (fun v' w' T' hcar => ?_))
      show I _ _ _
      rw [HI.out]
      exact ⟨_, _, _, _, _, _, _, _, _, _, _, _, _, _, _, _, _, _, _, _, _, _, _, _, rfl, Lib.hid (by rw [hs 8, if_pos rfl, hk 15 (by decide), n15, if_pos rfl, if_neg (by simp)]; exact T'), Lib.hid (fun h => by rw [hs, if_pos rfl] at h; cases h), Lib.hid (fun h => h15.out (by rwa [hk 15 (by decide)] at h)), Lib.hid (fun h => h18.out (by rwa [hk 18 (by decide)] at h)), Lib.hid (fun h => by rw [hk 18 (by decide), n18] at h; cases h), Lib.hid (fun h => h21.out (by rwa [hk 21 (by decide)] at h)), Lib.hid (fun h => h21t.out (by rwa [hk 21 (by decide)] at h)), Lib.hid (fun _ h' => by rw [hs, if_pos rfl] at h'; cases h'), Lib.hid (fun h h' => by obtain ⟨A, n, k, e, hf⟩ := h14.out (by rwa [hk 14 (by decide)] at h) (by rwa [hk 15 (by decide)] at h'); exact ⟨A, n, k, e, hcar _ _ hf⟩), Lib.hid (fun h => f0.out (by rwa [hk 0 (by decide)] at h)), Lib.hid (fun h => f1.out (by rwa [hk 1 (by decide)] at h)), Lib.hid (fun h => f2.out (by rwa [hk 2 (by decide)] at h)), Lib.hid (fun h => f3.out (by rwa [hk 3 (by decide)] at h)), Lib.hid (fun h => f4.out (by rwa [hk 4 (by decide)] at h)), Lib.hid (fun _ => rfl), Lib.hid (fun h => f6.out (by rwa [hk 6 (by decide)] at h)), Lib.hid (fun _ => rfl), Lib.hid (fun h => f9.out (by rwa [hk 9 (by decide)] at h)), Lib.hid (fun h => f10.out (by rwa [hk 10 (by decide)] at h)), Lib.hid (fun h => f11.out (by rwa [hk 11 (by decide)] at h)), Lib.hid (fun h => f12.out (by rwa [hk 12 (by decide)] at h)), Lib.hid (fun h => f13.out (by rwa [hk 13 (by decide)] at h)), Lib.hid (fun h => f15.out (by rwa [hk 15 (by decide)] at h)), Lib.hid (fun h => f16.out (by rwa [hk 16 (by decide)] at h)), Lib.hid (fun h => f17.out (by rwa [hk 17 (by decide)] at h)), Lib.hid (fun h => f19.out (by rwa [hk 19 (by decide)] at h)), Lib.hid (fun h => f20.out (by rwa [hk 20 (by decide)] at h))⟩
    · skip
      refine wpOp_of_list (by rfl) ?_
      go_wp2_with fail
      show I _ _ _
      rw [HI.out]
      exact ⟨_, _, _, _, _, _, _, _, _, _, _, _, _, _, _, _, _, _, _, _, _, _, _, _, rfl, Lib.hid (by rw [hk 8 (by decide), hk 15 (by decide)]; exact hT.out), Lib.hid (fun h => h8.out (by rwa [hk 8 (by decide)] at h)), Lib.hid (fun h => h15.out (by rwa [hk 15 (by decide)] at h)), Lib.hid (fun h => h18.out (by rwa [hk 18 (by decide)] at h)), Lib.hid (fun h => h18t.out (by rwa [hk 18 (by decide)] at h)), Lib.hid (fun h => h21.out (by rwa [hk 21 (by decide)] at h)), Lib.hid (fun h => h21t.out (by rwa [hk 21 (by decide)] at h)), Lib.hid (fun h h' => h7.out (by rwa [hk 7 (by decide)] at h) (by rwa [hk 8 (by decide)] at h')), Lib.hid (fun h h' => h14.out (by rwa [hk 14 (by decide)] at h) (by rwa [hk 15 (by decide)] at h')), Lib.hid (fun h => f0.out (by rwa [hk 0 (by decide)] at h)), Lib.hid (fun h => f1.out (by rwa [hk 1 (by decide)] at h)), Lib.hid (fun h => f2.out (by rwa [hk 2 (by decide)] at h)), Lib.hid (fun h => f3.out (by rwa [hk 3 (by decide)] at h)), Lib.hid (fun h => f4.out (by rwa [hk 4 (by decide)] at h)), Lib.hid (fun h => f5.out (by rwa [hk 5 (by decide)] at h)), Lib.hid (fun h => f6.out (by rwa [hk 6 (by decide)] at h)), Lib.hid (fun h => f8.out (by rwa [hk 8 (by decide)] at h)), Lib.hid (fun _ => rfl), Lib.hid (fun h => f10.out (by rwa [hk 10 (by decide)] at h)), Lib.hid (fun h => f11.out (by rwa [hk 11 (by decide)] at h)), Lib.hid (fun h => f12.out (by rwa [hk 12 (by decide)] at h)), Lib.hid (fun h => f13.out (by rwa [hk 13 (by decide)] at h)), Lib.hid (fun h => f15.out (by rwa [hk 15 (by decide)] at h)), Lib.hid (fun h => f16.out (by rwa [hk 16 (by decide)] at h)), Lib.hid (fun h => f17.out (by rwa [hk 17 (by decide)] at h)), Lib.hid (fun h => f19.out (by rwa [hk 19 (by decide)] at h)), Lib.hid (fun h => f20.out (by rwa [hk 20 (by decide)] at h))⟩
    · skip
      have d9 : l.getD 9 false = true := hd 9 (by decide)
      obtain rfl := f9.out d9
      refine wpOp_of_list (by rfl) ?_
      go_wp2_with fail
      show I _ _ _
      rw [HI.out]
      exact ⟨_, _, _, _, _, _, _, _, _, _, _, _, _, _, _, _, _, _, _, _, _, _, _, _, rfl, Lib.hid (by rw [hk 8 (by decide), hk 15 (by decide)]; exact hT.out), Lib.hid (fun h => h8.out (by rwa [hk 8 (by decide)] at h)), Lib.hid (fun h => h15.out (by rwa [hk 15 (by decide)] at h)), Lib.hid (fun h => h18.out (by rwa [hk 18 (by decide)] at h)), Lib.hid (fun h => h18t.out (by rwa [hk 18 (by decide)] at h)), Lib.hid (fun h => h21.out (by rwa [hk 21 (by decide)] at h)), Lib.hid (fun h => h21t.out (by rwa [hk 21 (by decide)] at h)), Lib.hid (fun h h' => h7.out (by rwa [hk 7 (by decide)] at h) (by rwa [hk 8 (by decide)] at h')), Lib.hid (fun h h' => h14.out (by rwa [hk 14 (by decide)] at h) (by rwa [hk 15 (by decide)] at h')), Lib.hid (fun h => f0.out (by rwa [hk 0 (by decide)] at h)), Lib.hid (fun h => f1.out (by rwa [hk 1 (by decide)] at h)), Lib.hid (fun h => f2.out (by rwa [hk 2 (by decide)] at h)), Lib.hid (fun h => f3.out (by rwa [hk 3 (by decide)] at h)), Lib.hid (fun h => f4.out (by rwa [hk 4 (by decide)] at h)), Lib.hid (fun h => f5.out (by rwa [hk 5 (by decide)] at h)), Lib.hid (fun h => f6.out (by rwa [hk 6 (by decide)] at h)), Lib.hid (fun h => f8.out (by rwa [hk 8 (by decide)] at h)), Lib.hid (fun _ => rfl), Lib.hid (fun _ => rfl), Lib.hid (fun h => f11.out (by rwa [hk 11 (by decide)] at h)), Lib.hid (fun h => f12.out (by rwa [hk 12 (by decide)] at h)), Lib.hid (fun h => f13.out (by rwa [hk 13 (by decide)] at h)), Lib.hid (fun h => f15.out (by rwa [hk 15 (by decide)] at h)), Lib.hid (fun h => f16.out (by rwa [hk 16 (by decide)] at h)), Lib.hid (fun h => f17.out (by rwa [hk 17 (by decide)] at h)), Lib.hid (fun h => f19.out (by rwa [hk 19 (by decide)] at h)), Lib.hid (fun h => f20.out (by rwa [hk 20 (by decide)] at h))⟩
    · skip
      have d10 : l.getD 10 false = true := hd 10 (by decide)
      obtain rfl := f10.out d10
      refine wpOp_of_list (by rfl) ?_
      go_wp2_with fail
      show I _ _ _
      rw [HI.out]
      exact ⟨_, _, _, _, _, _, _, _, _, _, _, _, _, _, _, _, _, _, _, _, _, _, _, _, rfl, Lib.hid (by rw [hk 8 (by decide), hk 15 (by decide)]; exact hT.out), Lib.hid (fun h => h8.out (by rwa [hk 8 (by decide)] at h)), Lib.hid (fun h => h15.out (by rwa [hk 15 (by decide)] at h)), Lib.hid (fun h => h18.out (by rwa [hk 18 (by decide)] at h)), Lib.hid (fun h => h18t.out (by rwa [hk 18 (by decide)] at h)), Lib.hid (fun h => h21.out (by rwa [hk 21 (by decide)] at h)), Lib.hid (fun h => h21t.out (by rwa [hk 21 (by decide)] at h)), Lib.hid (fun h h' => h7.out (by rwa [hk 7 (by decide)] at h) (by rwa [hk 8 (by decide)] at h')), Lib.hid (fun h h' => h14.out (by rwa [hk 14 (by decide)] at h) (by rwa [hk 15 (by decide)] at h')), Lib.hid (fun h => f0.out (by rwa [hk 0 (by decide)] at h)), Lib.hid (fun h => f1.out (by rwa [hk 1 (by decide)] at h)), Lib.hid (fun h => f2.out (by rwa [hk 2 (by decide)] at h)), Lib.hid (fun h => f3.out (by rwa [hk 3 (by decide)] at h)), Lib.hid (fun h => f4.out (by rwa [hk 4 (by decide)] at h)), Lib.hid (fun h => f5.out (by rwa [hk 5 (by decide)] at h)), Lib.hid (fun h => f6.out (by rwa [hk 6 (by decide)] at h)), Lib.hid (fun h => f8.out (by rwa [hk 8 (by decide)] at h)), Lib.hid (fun h => f9.out (by rwa [hk 9 (by decide)] at h)), Lib.hid (fun _ => rfl), Lib.hid (fun _ => rfl), Lib.hid (fun h => f12.out (by rwa [hk 12 (by decide)] at h)), Lib.hid (fun h => f13.out (by rwa [hk 13 (by decide)] at h)), Lib.hid (fun h => f15.out (by rwa [hk 15 (by decide)] at h)), Lib.hid (fun h => f16.out (by rwa [hk 16 (by decide)] at h)), Lib.hid (fun h => f17.out (by rwa [hk 17 (by decide)] at h)), Lib.hid (fun h => f19.out (by rwa [hk 19 (by decide)] at h)), Lib.hid (fun h => f20.out (by rwa [hk 20 (by decide)] at h))⟩
    · skip
      have d11 : l.getD 11 false = true := hd 11 (by decide)
      obtain rfl := f11.out d11
      have n21 : l.getD 21 false = false := by
        cases e : l.getD 21 false
        · rfl
        · have := hc 21 e 12 (by decide); rw [hn] at this; cases this
      obtain rfl := h21.out n21
      have k9 := hT.out.bl.cell 1 _ rfl
      refine wpOp_of_list (by rfl) ?_
      go_wp2_with fail
      show I _ _ _
      rw [HI.out]
      exact ⟨_, _, _, _, _, _, _, _, _, _, _, _, _, _, _, _, _, _, _, _, _, _, _, _, rfl, Lib.hid (by rw [hk 8 (by decide), hk 15 (by decide)]; exact hT.out), Lib.hid (fun h => h8.out (by rwa [hk 8 (by decide)] at h)), Lib.hid (fun h => h15.out (by rwa [hk 15 (by decide)] at h)), Lib.hid (fun h => h18.out (by rwa [hk 18 (by decide)] at h)), Lib.hid (fun h => h18t.out (by rwa [hk 18 (by decide)] at h)), Lib.hid (fun _ => rfl), Lib.hid (fun h => h21t.out (by rwa [hk 21 (by decide)] at h)), Lib.hid (fun h h' => h7.out (by rwa [hk 7 (by decide)] at h) (by rwa [hk 8 (by decide)] at h')), Lib.hid (fun h h' => h14.out (by rwa [hk 14 (by decide)] at h) (by rwa [hk 15 (by decide)] at h')), Lib.hid (fun h => f0.out (by rwa [hk 0 (by decide)] at h)), Lib.hid (fun h => f1.out (by rwa [hk 1 (by decide)] at h)), Lib.hid (fun h => f2.out (by rwa [hk 2 (by decide)] at h)), Lib.hid (fun h => f3.out (by rwa [hk 3 (by decide)] at h)), Lib.hid (fun h => f4.out (by rwa [hk 4 (by decide)] at h)), Lib.hid (fun h => f5.out (by rwa [hk 5 (by decide)] at h)), Lib.hid (fun h => f6.out (by rwa [hk 6 (by decide)] at h)), Lib.hid (fun h => f8.out (by rwa [hk 8 (by decide)] at h)), Lib.hid (fun h => f9.out (by rwa [hk 9 (by decide)] at h)), Lib.hid (fun h => f10.out (by rwa [hk 10 (by decide)] at h)), Lib.hid (fun _ => rfl), Lib.hid (fun _ => rfl), Lib.hid (fun h => f13.out (by rwa [hk 13 (by decide)] at h)), Lib.hid (fun h => f15.out (by rwa [hk 15 (by decide)] at h)), Lib.hid (fun h => f16.out (by rwa [hk 16 (by decide)] at h)), Lib.hid (fun h => f17.out (by rwa [hk 17 (by decide)] at h)), Lib.hid (fun h => f19.out (by rwa [hk 19 (by decide)] at h)), Lib.hid (fun h => f20.out (by rwa [hk 20 (by decide)] at h))⟩
    · skip
      refine wpOp_of_list (by rfl) ?_
      go_wp2_with fail
      show I _ _ _
      rw [HI.out]
      exact ⟨_, _, _, _, _, _, _, _, _, _, _, _, _, _, _, _, _, _, _, _, _, _, _, _, rfl, Lib.hid (by rw [hk 8 (by decide), hk 15 (by decide)]; exact hT.out), Lib.hid (fun h => h8.out (by rwa [hk 8 (by decide)] at h)), Lib.hid (fun h => h15.out (by rwa [hk 15 (by decide)] at h)), Lib.hid (fun h => h18.out (by rwa [hk 18 (by decide)] at h)), Lib.hid (fun h => h18t.out (by rwa [hk 18 (by decide)] at h)), Lib.hid (fun h => h21.out (by rwa [hk 21 (by decide)] at h)), Lib.hid (fun h => h21t.out (by rwa [hk 21 (by decide)] at h)), Lib.hid (fun h h' => h7.out (by rwa [hk 7 (by decide)] at h) (by rwa [hk 8 (by decide)] at h')), Lib.hid (fun h h' => h14.out (by rwa [hk 14 (by decide)] at h) (by rwa [hk 15 (by decide)] at h')), Lib.hid (fun h => f0.out (by rwa [hk 0 (by decide)] at h)), Lib.hid (fun h => f1.out (by rwa [hk 1 (by decide)] at h)), Lib.hid (fun h => f2.out (by rwa [hk 2 (by decide)] at h)), Lib.hid (fun h => f3.out (by rwa [hk 3 (by decide)] at h)), Lib.hid (fun h => f4.out (by rwa [hk 4 (by decide)] at h)), Lib.hid (fun h => f5.out (by rwa [hk 5 (by decide)] at h)), Lib.hid (fun h => f6.out (by rwa [hk 6 (by decide)] at h)), Lib.hid (fun h => f8.out (by rwa [hk 8 (by decide)] at h)), Lib.hid (fun h => f9.out (by rwa [hk 9 (by decide)] at h)), Lib.hid (fun h => f10.out (by rwa [hk 10 (by decide)] at h)), Lib.hid (fun h => f11.out (by rwa [hk 11 (by decide)] at h)), Lib.hid (fun h => f12.out (by rwa [hk 12 (by decide)] at h)), Lib.hid (fun _ => rfl), Lib.hid (fun h => f15.out (by rwa [hk 15 (by decide)] at h)), Lib.hid (fun h => f16.out (by rwa [hk 16 (by decide)] at h)), Lib.hid (fun h => f17.out (by rwa [hk 17 (by decide)] at h)), Lib.hid (fun h => f19.out (by rwa [hk 19 (by decide)] at h)), Lib.hid (fun h => f20.out (by rwa [hk 20 (by decide)] at h))⟩
    · skip
      have d13 : l.getD 13 false = true := hd 13 (by decide)
      obtain rfl := f13.out d13
      refine wpOp_of_list (by rfl) ?_
      go_wp2_with fail
      show I _ _ _
      rw [HI.out]
      exact ⟨_, _, _, _, _, _, _, _, _, _, _, _, _, _, _, _, _, _, _, _, _, _, _, _, rfl, Lib.hid (by rw [hk 8 (by decide), hk 15 (by decide)]; exact hT.out.alloc), Lib.hid (fun h => h8.out (by rwa [hk 8 (by decide)] at h)), Lib.hid (fun h => h15.out (by rwa [hk 15 (by decide)] at h)), Lib.hid (fun h => h18.out (by rwa [hk 18 (by decide)] at h)), Lib.hid (fun h => h18t.out (by rwa [hk 18 (by decide)] at h)), Lib.hid (fun h => h21.out (by rwa [hk 21 (by decide)] at h)), Lib.hid (fun h => h21t.out (by rwa [hk 21 (by decide)] at h)), Lib.hid (fun h h' => by obtain ⟨A, n, k, e, hf⟩ := h7.out (by rwa [hk 7 (by decide)] at h) (by rwa [hk 8 (by decide)] at h'); exact ⟨A, n, k, e, hf.alloc⟩), Lib.hid (fun _ _ => ⟨_, _, _, rfl, frN_lit hT.out HOT.out rfl⟩), Lib.hid (fun h => f0.out (by rwa [hk 0 (by decide)] at h)), Lib.hid (fun h => f1.out (by rwa [hk 1 (by decide)] at h)), Lib.hid (fun h => f2.out (by rwa [hk 2 (by decide)] at h)), Lib.hid (fun h => f3.out (by rwa [hk 3 (by decide)] at h)), Lib.hid (fun h => f4.out (by rwa [hk 4 (by decide)] at h)), Lib.hid (fun h => f5.out (by rwa [hk 5 (by decide)] at h)), Lib.hid (fun h => f6.out (by rwa [hk 6 (by decide)] at h)), Lib.hid (fun h => f8.out (by rwa [hk 8 (by decide)] at h)), Lib.hid (fun h => f9.out (by rwa [hk 9 (by decide)] at h)), Lib.hid (fun h => f10.out (by rwa [hk 10 (by decide)] at h)), Lib.hid (fun h => f11.out (by rwa [hk 11 (by decide)] at h)), Lib.hid (fun h => f12.out (by rwa [hk 12 (by decide)] at h)), Lib.hid (fun _ => rfl), Lib.hid (fun h => f15.out (by rwa [hk 15 (by decide)] at h)), Lib.hid (fun h => f16.out (by rwa [hk 16 (by decide)] at h)), Lib.hid (fun h => f17.out (by rwa [hk 17 (by decide)] at h)), Lib.hid (fun h => f19.out (by rwa [hk 19 (by decide)] at h)), Lib.hid (fun h => f20.out (by rwa [hk 20 (by decide)] at h))⟩
    · skip
      have d8 : l.getD 8 false = true := hd 8 (by decide)
      have d12 : l.getD 12 false = true := hd 12 (by decide)
      have d14 : l.getD 14 false = true := hd 14 (by decide)
      obtain rfl := f8.out d8
      obtain rfl := f12.out d12
      have n18 : l.getD 18 false = false := by
        cases e : l.getD 18 false
        · rfl
        · have := hc 18 e 15 (by decide); rw [hn] at this; cases this
      have n21 : l.getD 21 false = false := by
        cases e : l.getD 21 false
        · rfl
        · have := hc 21 e 15 (by decide); rw [hn] at this; cases this
      obtain rfl := h15.out hn
      obtain ⟨A, n, k, rfl, hf⟩ := h14.out d14 hn
      have T9 := hT.out
      rw [hn, d8, if_pos rfl, if_neg (by simp)] at T9
      refine wpOp_of_law (by rfl) (step_two_n (by rfl) (.tmp 31) (.tmp 33) (by rfl) (by rfl) (by rfl) to_ T9 hf.fr HL2.out hbz (fun v' w' T' => ?_))
      show I _ _ _
      rw [HI.out]
      exact ⟨_, _, _, _, _, _, _, _, _, _, _, _, _, _, _, _, _, _, _, _, _, _, _, _, rfl, Lib.hid (by rw [hs 15, if_pos rfl, hk 8 (by decide), d8, if_pos rfl]; exact T'), Lib.hid (fun h => h8.out (by rwa [hk 8 (by decide)] at h)), Lib.hid (fun h => by rw [hs, if_pos rfl] at h; cases h), Lib.hid (fun h => h18.out (by rwa [hk 18 (by decide)] at h)), Lib.hid (fun h => h18t.out (by rwa [hk 18 (by decide)] at h)), Lib.hid (fun h => h21.out (by rwa [hk 21 (by decide)] at h)), Lib.hid (fun h => by rw [hk 21 (by decide), n21] at h; cases h), Lib.hid (fun _ h' => by rw [hk 8 (by decide), d8] at h'; cases h'), Lib.hid (fun _ h' => by rw [hs, if_pos rfl] at h'; cases h'), Lib.hid (fun h => f0.out (by rwa [hk 0 (by decide)] at h)), Lib.hid (fun h => f1.out (by rwa [hk 1 (by decide)] at h)), Lib.hid (fun h => f2.out (by rwa [hk 2 (by decide)] at h)), Lib.hid (fun h => f3.out (by rwa [hk 3 (by decide)] at h)), Lib.hid (fun h => f4.out (by rwa [hk 4 (by decide)] at h)), Lib.hid (fun h => f5.out (by rwa [hk 5 (by decide)] at h)), Lib.hid (fun h => f6.out (by rwa [hk 6 (by decide)] at h)), Lib.hid (fun _ => rfl), Lib.hid (fun h => f9.out (by rwa [hk 9 (by decide)] at h)), Lib.hid (fun h => f10.out (by rwa [hk 10 (by decide)] at h)), Lib.hid (fun h => f11.out (by rwa [hk 11 (by decide)] at h)), Lib.hid (fun _ => rfl), Lib.hid (fun h => f13.out (by rwa [hk 13 (by decide)] at h)), Lib.hid (fun _ => rfl), Lib.hid (fun h => f16.out (by rwa [hk 16 (by decide)] at h)), Lib.hid (fun h => f17.out (by rwa [hk 17 (by decide)] at h)), Lib.hid (fun h => f19.out (by rwa [hk 19 (by decide)] at h)), Lib.hid (fun h => f20.out (by rwa [hk 20 (by decide)] at h))⟩
    · skip
      have d0 : l.getD 0 false = true := hd 0 (by decide)
      obtain rfl := f0.out d0
      refine wpOp_of_list (by rfl) ?_
      go_wp2_with fail
      show I _ _ _
      rw [HI.out]
      exact ⟨_, _, _, _, _, _, _, _, _, _, _, _, _, _, _, _, _, _, _, _, _, _, _, _, rfl, Lib.hid (by rw [hk 8 (by decide), hk 15 (by decide)]; exact hT.out), Lib.hid (fun h => h8.out (by rwa [hk 8 (by decide)] at h)), Lib.hid (fun h => h15.out (by rwa [hk 15 (by decide)] at h)), Lib.hid (fun h => h18.out (by rwa [hk 18 (by decide)] at h)), Lib.hid (fun h => h18t.out (by rwa [hk 18 (by decide)] at h)), Lib.hid (fun h => h21.out (by rwa [hk 21 (by decide)] at h)), Lib.hid (fun h => h21t.out (by rwa [hk 21 (by decide)] at h)), Lib.hid (fun h h' => h7.out (by rwa [hk 7 (by decide)] at h) (by rwa [hk 8 (by decide)] at h')), Lib.hid (fun h h' => h14.out (by rwa [hk 14 (by decide)] at h) (by rwa [hk 15 (by decide)] at h')), Lib.hid (fun _ => rfl), Lib.hid (fun h => f1.out (by rwa [hk 1 (by decide)] at h)), Lib.hid (fun h => f2.out (by rwa [hk 2 (by decide)] at h)), Lib.hid (fun h => f3.out (by rwa [hk 3 (by decide)] at h)), Lib.hid (fun h => f4.out (by rwa [hk 4 (by decide)] at h)), Lib.hid (fun h => f5.out (by rwa [hk 5 (by decide)] at h)), Lib.hid (fun h => f6.out (by rwa [hk 6 (by decide)] at h)), Lib.hid (fun h => f8.out (by rwa [hk 8 (by decide)] at h)), Lib.hid (fun h => f9.out (by rwa [hk 9 (by decide)] at h)), Lib.hid (fun h => f10.out (by rwa [hk 10 (by decide)] at h)), Lib.hid (fun h => f11.out (by rwa [hk 11 (by decide)] at h)), Lib.hid (fun h => f12.out (by rwa [hk 12 (by decide)] at h)), Lib.hid (fun h => f13.out (by rwa [hk 13 (by decide)] at h)), Lib.hid (fun h => f15.out (by rwa [hk 15 (by decide)] at h)), Lib.hid (fun _ => rfl), Lib.hid (fun h => f17.out (by rwa [hk 17 (by decide)] at h)), Lib.hid (fun h => f19.out (by rwa [hk 19 (by decide)] at h)), Lib.hid (fun h => f20.out (by rwa [hk 20 (by decide)] at h))⟩
    · skip
      have d16 : l.getD 16 false = true := hd 16 (by decide)
      obtain rfl := f16.out d16
      refine wpOp_of_list (by rfl) ?_
      go_wp2_with fail
      show I _ _ _
      rw [HI.out]
      exact ⟨_, _, _, _, _, _, _, _, _, _, _, _, _, _, _, _, _, _, _, _, _, _, _, _, rfl, Lib.hid (by rw [hk 8 (by decide), hk 15 (by decide)]; exact hT.out), Lib.hid (fun h => h8.out (by rwa [hk 8 (by decide)] at h)), Lib.hid (fun h => h15.out (by rwa [hk 15 (by decide)] at h)), Lib.hid (fun h => h18.out (by rwa [hk 18 (by decide)] at h)), Lib.hid (fun h => h18t.out (by rwa [hk 18 (by decide)] at h)), Lib.hid (fun h => h21.out (by rwa [hk 21 (by decide)] at h)), Lib.hid (fun h => h21t.out (by rwa [hk 21 (by decide)] at h)), Lib.hid (fun h h' => h7.out (by rwa [hk 7 (by decide)] at h) (by rwa [hk 8 (by decide)] at h')), Lib.hid (fun h h' => h14.out (by rwa [hk 14 (by decide)] at h) (by rwa [hk 15 (by decide)] at h')), Lib.hid (fun h => f0.out (by rwa [hk 0 (by decide)] at h)), Lib.hid (fun h => f1.out (by rwa [hk 1 (by decide)] at h)), Lib.hid (fun h => f2.out (by rwa [hk 2 (by decide)] at h)), Lib.hid (fun h => f3.out (by rwa [hk 3 (by decide)] at h)), Lib.hid (fun h => f4.out (by rwa [hk 4 (by decide)] at h)), Lib.hid (fun h => f5.out (by rwa [hk 5 (by decide)] at h)), Lib.hid (fun h => f6.out (by rwa [hk 6 (by decide)] at h)), Lib.hid (fun h => f8.out (by rwa [hk 8 (by decide)] at h)), Lib.hid (fun h => f9.out (by rwa [hk 9 (by decide)] at h)), Lib.hid (fun h => f10.out (by rwa [hk 10 (by decide)] at h)), Lib.hid (fun h => f11.out (by rwa [hk 11 (by decide)] at h)), Lib.hid (fun h => f12.out (by rwa [hk 12 (by decide)] at h)), Lib.hid (fun h => f13.out (by rwa [hk 13 (by decide)] at h)), Lib.hid (fun h => f15.out (by rwa [hk 15 (by decide)] at h)), Lib.hid (fun _ => rfl), Lib.hid (fun _ => rfl), Lib.hid (fun h => f19.out (by rwa [hk 19 (by decide)] at h)), Lib.hid (fun h => f20.out (by rwa [hk 20 (by decide)] at h))⟩
    · skip
      have d8 : l.getD 8 false = true := hd 8 (by decide)
      have d17 : l.getD 17 false = true := hd 17 (by decide)
      have d15 : l.getD 15 false = true := hd 15 (by decide)
      obtain rfl := f8.out d8
      obtain rfl := f17.out d17
      obtain rfl := f15.out d15
      obtain ⟨A9, c9, h9⟩ := hT.out.oo.form
      rw [show (if l.getD 8 false = true then lo ++ [s] else lo).length = lo.length + 1 by rw [d8, if_pos rfl]; simp] at h9
      subst h9
      have k9 := hT.out.bl.cell 0 _ rfl
      have kf := hT.out.bl.fr 0
      have kl := hT.out.bl.lt
      refine wpOp_of_list (by rfl) ?_
      go_wp2_with fail
      show I _ _ _
      rw [HI.out]
      exact ⟨_, _, _, _, _, _, _, _, _, _, _, _, _, _, _, _, _, _, _, _, _, _, _, _, rfl, Lib.hid (by rw [hk 8 (by decide), hk 15 (by decide)]; exact hT.out.set (i := 0) (by decide) _ _ _ _ rfl), Lib.hid (fun h => h8.out (by rwa [hk 8 (by decide)] at h)), Lib.hid (fun h => h15.out (by rwa [hk 15 (by decide)] at h)), Lib.hid (fun h => by rw [hs, if_pos rfl] at h; cases h), Lib.hid (fun _ => rfl), Lib.hid (fun h => h21.out (by rwa [hk 21 (by decide)] at h)), Lib.hid (fun h => h21t.out (by rwa [hk 21 (by decide)] at h)), Lib.hid (fun _ h' => by rw [hk 8 (by decide), d8] at h'; cases h'), Lib.hid (fun _ h' => by rw [hk 15 (by decide), d15] at h'; cases h'), Lib.hid (fun h => f0.out (by rwa [hk 0 (by decide)] at h)), Lib.hid (fun h => f1.out (by rwa [hk 1 (by decide)] at h)), Lib.hid (fun h => f2.out (by rwa [hk 2 (by decide)] at h)), Lib.hid (fun h => f3.out (by rwa [hk 3 (by decide)] at h)), Lib.hid (fun h => f4.out (by rwa [hk 4 (by decide)] at h)), Lib.hid (fun h => f5.out (by rwa [hk 5 (by decide)] at h)), Lib.hid (fun h => f6.out (by rwa [hk 6 (by decide)] at h)), Lib.hid (fun _ => rfl), Lib.hid (fun h => f9.out (by rwa [hk 9 (by decide)] at h)), Lib.hid (fun h => f10.out (by rwa [hk 10 (by decide)] at h)), Lib.hid (fun h => f11.out (by rwa [hk 11 (by decide)] at h)), Lib.hid (fun h => f12.out (by rwa [hk 12 (by decide)] at h)), Lib.hid (fun h => f13.out (by rwa [hk 13 (by decide)] at h)), Lib.hid (fun _ => rfl), Lib.hid (fun h => f16.out (by rwa [hk 16 (by decide)] at h)), Lib.hid (fun _ => rfl), Lib.hid (fun h => f19.out (by rwa [hk 19 (by decide)] at h)), Lib.hid (fun h => f20.out (by rwa [hk 20 (by decide)] at h))⟩
    · skip
      have d1 : l.getD 1 false = true := hd 1 (by decide)
      have d18 : l.getD 18 false = true := hd 18 (by decide)
      obtain rfl := f1.out d1
      refine wpOp_of_list (by rfl) ?_
      go_wp2_with fail
      show I _ _ _
      rw [HI.out]
      exact ⟨_, _, _, _, _, _, _, _, _, _, _, _, _, _, _, _, _, _, _, _, _, _, _, _, rfl, Lib.hid (by rw [hk 8 (by decide), hk 15 (by decide)]; exact hT.out), Lib.hid (fun h => h8.out (by rwa [hk 8 (by decide)] at h)), Lib.hid (fun h => h15.out (by rwa [hk 15 (by decide)] at h)), Lib.hid (fun h => h18.out (by rwa [hk 18 (by decide)] at h)), Lib.hid (fun h => h18t.out (by rwa [hk 18 (by decide)] at h)), Lib.hid (fun h => h21.out (by rwa [hk 21 (by decide)] at h)), Lib.hid (fun h => h21t.out (by rwa [hk 21 (by decide)] at h)), Lib.hid (fun h h' => h7.out (by rwa [hk 7 (by decide)] at h) (by rwa [hk 8 (by decide)] at h')), Lib.hid (fun h h' => h14.out (by rwa [hk 14 (by decide)] at h) (by rwa [hk 15 (by decide)] at h')), Lib.hid (fun h => f0.out (by rwa [hk 0 (by decide)] at h)), Lib.hid (fun _ => rfl), Lib.hid (fun h => f2.out (by rwa [hk 2 (by decide)] at h)), Lib.hid (fun h => f3.out (by rwa [hk 3 (by decide)] at h)), Lib.hid (fun h => f4.out (by rwa [hk 4 (by decide)] at h)), Lib.hid (fun h => f5.out (by rwa [hk 5 (by decide)] at h)), Lib.hid (fun h => f6.out (by rwa [hk 6 (by decide)] at h)), Lib.hid (fun h => f8.out (by rwa [hk 8 (by decide)] at h)), Lib.hid (fun h => f9.out (by rwa [hk 9 (by decide)] at h)), Lib.hid (fun h => f10.out (by rwa [hk 10 (by decide)] at h)), Lib.hid (fun h => f11.out (by rwa [hk 11 (by decide)] at h)), Lib.hid (fun h => f12.out (by rwa [hk 12 (by decide)] at h)), Lib.hid (fun h => f13.out (by rwa [hk 13 (by decide)] at h)), Lib.hid (fun h => f15.out (by rwa [hk 15 (by decide)] at h)), Lib.hid (fun h => f16.out (by rwa [hk 16 (by decide)] at h)), Lib.hid (fun h => f17.out (by rwa [hk 17 (by decide)] at h)), Lib.hid (fun _ => rfl), Lib.hid (fun h => f20.out (by rwa [hk 20 (by decide)] at h))⟩
    · skip
      have d19 : l.getD 19 false = true := hd 19 (by decide)
      obtain rfl := f19.out d19
      refine wpOp_of_list (by rfl) ?_
      go_wp2_with fail
      show I _ _ _
      rw [HI.out]
      exact ⟨_, _, _, _, _, _, _, _, _, _, _, _, _, _, _, _, _, _, _, _, _, _, _, _, rfl, Lib.hid (by rw [hk 8 (by decide), hk 15 (by decide)]; exact hT.out), Lib.hid (fun h => h8.out (by rwa [hk 8 (by decide)] at h)), Lib.hid (fun h => h15.out (by rwa [hk 15 (by decide)] at h)), Lib.hid (fun h => h18.out (by rwa [hk 18 (by decide)] at h)), Lib.hid (fun h => h18t.out (by rwa [hk 18 (by decide)] at h)), Lib.hid (fun h => h21.out (by rwa [hk 21 (by decide)] at h)), Lib.hid (fun h => h21t.out (by rwa [hk 21 (by decide)] at h)), Lib.hid (fun h h' => h7.out (by rwa [hk 7 (by decide)] at h) (by rwa [hk 8 (by decide)] at h')), Lib.hid (fun h h' => h14.out (by rwa [hk 14 (by decide)] at h) (by rwa [hk 15 (by decide)] at h')), Lib.hid (fun h => f0.out (by rwa [hk 0 (by decide)] at h)), Lib.hid (fun h => f1.out (by rwa [hk 1 (by decide)] at h)), Lib.hid (fun h => f2.out (by rwa [hk 2 (by decide)] at h)), Lib.hid (fun h => f3.out (by rwa [hk 3 (by decide)] at h)), Lib.hid (fun h => f4.out (by rwa [hk 4 (by decide)] at h)), Lib.hid (fun h => f5.out (by rwa [hk 5 (by decide)] at h)), Lib.hid (fun h => f6.out (by rwa [hk 6 (by decide)] at h)), Lib.hid (fun h => f8.out (by rwa [hk 8 (by decide)] at h)), Lib.hid (fun h => f9.out (by rwa [hk 9 (by decide)] at h)), Lib.hid (fun h => f10.out (by rwa [hk 10 (by decide)] at h)), Lib.hid (fun h => f11.out (by rwa [hk 11 (by decide)] at h)), Lib.hid (fun h => f12.out (by rwa [hk 12 (by decide)] at h)), Lib.hid (fun h => f13.out (by rwa [hk 13 (by decide)] at h)), Lib.hid (fun h => f15.out (by rwa [hk 15 (by decide)] at h)), Lib.hid (fun h => f16.out (by rwa [hk 16 (by decide)] at h)), Lib.hid (fun h => f17.out (by rwa [hk 17 (by decide)] at h)), Lib.hid (fun _ => rfl), Lib.hid (fun _ => rfl)⟩
    · skip
      have d15 : l.getD 15 false = true := hd 15 (by decide)
      have d18 : l.getD 18 false = true := hd 18 (by decide)
      have d20 : l.getD 20 false = true := hd 20 (by decide)
      obtain rfl := f15.out d15
      obtain rfl := f20.out d20
      have d8 : l.getD 8 false = true := hc 15 d15 8 (by decide)
      obtain ⟨A9, c9, h9⟩ := hT.out.on.form
      rw [show (if l.getD 15 false = true then ln ++ [to_] else ln).length = ln.length + 1 by rw [d15, if_pos rfl]; simp] at h9
      subst h9
      have k9 := hT.out.bl.cell 1 _ rfl
      have kf := hT.out.bl.fr 1
      have kl := hT.out.bl.lt
      refine wpOp_of_list (by rfl) ?_
      go_wp2_with fail
      show I _ _ _
      rw [HI.out]
      exact ⟨_, _, _, _, _, _, _, _, _, _, _, _, _, _, _, _, _, _, _, _, _, _, _, _, rfl, Lib.hid (by rw [hk 8 (by decide), hk 15 (by decide)]; exact hT.out.set (i := 1) (by decide) _ _ _ _ rfl), Lib.hid (fun h => h8.out (by rwa [hk 8 (by decide)] at h)), Lib.hid (fun h => h15.out (by rwa [hk 15 (by decide)] at h)), Lib.hid (fun h => h18.out (by rwa [hk 18 (by decide)] at h)), Lib.hid (fun h => h18t.out (by rwa [hk 18 (by decide)] at h)), Lib.hid (fun h => by rw [hs, if_pos rfl] at h; cases h), Lib.hid (fun _ => rfl), Lib.hid (fun _ h' => by rw [hk 8 (by decide), d8] at h'; cases h'), Lib.hid (fun _ h' => by rw [hk 15 (by decide), d15] at h'; cases h'), Lib.hid (fun h => f0.out (by rwa [hk 0 (by decide)] at h)), Lib.hid (fun h => f1.out (by rwa [hk 1 (by decide)] at h)), Lib.hid (fun h => f2.out (by rwa [hk 2 (by decide)] at h)), Lib.hid (fun h => f3.out (by rwa [hk 3 (by decide)] at h)), Lib.hid (fun h => f4.out (by rwa [hk 4 (by decide)] at h)), Lib.hid (fun h => f5.out (by rwa [hk 5 (by decide)] at h)), Lib.hid (fun h => f6.out (by rwa [hk 6 (by decide)] at h)), Lib.hid (fun h => f8.out (by rwa [hk 8 (by decide)] at h)), Lib.hid (fun h => f9.out (by rwa [hk 9 (by decide)] at h)), Lib.hid (fun h => f10.out (by rwa [hk 10 (by decide)] at h)), Lib.hid (fun h => f11.out (by rwa [hk 11 (by decide)] at h)), Lib.hid (fun h => f12.out (by rwa [hk 12 (by decide)] at h)), Lib.hid (fun h => f13.out (by rwa [hk 13 (by decide)] at h)), Lib.hid (fun _ => rfl), Lib.hid (fun h => f16.out (by rwa [hk 16 (by decide)] at h)), Lib.hid (fun h => f17.out (by rwa [hk 17 (by decide)] at h)), Lib.hid (fun h => f19.out (by rwa [hk 19 (by decide)] at h)), Lib.hid (fun _ => rfl)⟩
  · intro l a wx hl hall hI0
    rw [HI.out] at hI0
    obtain ⟨u19, u20, u21, u22, u23, u24, u25, u26, u27, u28, u29, u30, u31, u32, u33, u34, u35, u36, u37, u38, yo, yn, x0, x1, rfl, hT, h8, h15, h18, h18t, h21, h21t, h7, h14, f0, f1, f2, f3, f4, f5, f6, f8, f9, f10, f11, f12, f13, f15, f16, f17, f19, f20⟩ := hI0
    obtain rfl := h18t.out (hall 18 (by decide))
    obtain rfl := h21t.out (hall 21 (by decide))
    have T9 := hT.out
    rw [hall 8 (by decide), hall 15 (by decide), if_pos rfl, if_pos rfl] at T9
    have T9 := Lib.hid T9
    clear hT h8 h15 h18 h18t h21 h21t h7 h14 f0 f1 f2 f3 f4 f5 f6 f8 f9 f10 f11 f12 f13 f15 f16 f17 f19 f20
    go_wp2_with fail
    go_ret
    exact ⟨rfl, _, _, T9.out⟩
  · decide
end Go.Proofs.YtoijobnpfibboaaDoor
