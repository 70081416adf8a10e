/- The walks of the reference's KPrint and of the law. -/
import Derived.Test.YtijahadmaggncaaDoorKp8
namespace Go.Proofs.YtijahadmaggncaaDoor
open Go.RowKit
set_option linter.unusedVariables false
theorem encA_tk (s : Str) : encA (tkW s) = [.int .i64 0, .int .i64 0, .string s] := by
  unfold encA tkW
  show [Value.int .i64 0, .int .i64 0, .string ⟨s.data.toList.toArray⟩] = _
  rw [Array.toArray_toList]
theorem okA_tk {s : Str} (h : okS s) : okA (tkW s) := ⟨show inI 0 by unfold inI; decide, show inI 0 by unfold inI; decide, by show s.data.toList.length ≤ _; rw [Array.length_toList]; unfold okS at h; show s.size ≤ _; omega⟩
set_option maxHeartbeats 2000000 in
set_option maxRecDepth 100000 in
theorem kprint_any (l : List St) (w : World) (S : Blocks) (V : Value) (hS : Sub S (Upto w.heap.size)) (r : RdSts w S l V) (hF : PowT w) (hwt : St.wts l ≤ 1048576) :
    Calls Tryd.prog 7 #[V] w fun e w' => e = .returned (.tuple #[.string (printS l), .int .i64 (printE l)]) ∧ Below w.heap.size w w' := by
  obtain ⟨i0, hi, hz0, hz1, hz2⟩ := info_parts infoTok
  have HC := Lib.hid (kstmts_any l w S V hS r hF hwt)
  have HTR := Lib.hid (tkL_TR l)
  clear r hF hS
  go_enter Tryd.func7, Tryd.ntmps7
  go_wp2_with (go_at_call 20; refine (calls_hid HC.out).mono ?_)
  rintro e w1 hh
  obtain ⟨x, out, rfl, o1, b1, t1, q1⟩ := hh.out
  clear hh HC
  obtain ⟨Ax, cx, rfl⟩ := o1.form
  have B1 := Lib.hid b1
  have hz1' := b1.size
  have hlo := tsz_len out
  have RX := Lib.hid (o1.rd (by omega))
  have T1' := Lib.hid t1
  have Q1 := Lib.hid q1
  clear o1 b1 t1 q1
  obtain ⟨ok, hok⟩ : ∃ ok, ok = (tkL true l).2 := ⟨_, rfl⟩
  have HOK := Lib.hid hok
  rw [← hok]
  clear hok
  cases ok
  · have hf : (tkL false l).2 = false := by rw [← HTR.out.1]; exact HOK.out.symm
    have E1 := Lib.hid (show printS l = ⟨#[]⟩ by unfold printS; rw [hf]; rfl)
    have E2 := Lib.hid (show printE l = 1 by unfold printE; rw [hf]; rfl)
    clear hf
    go_wp2
    go_ret2
    exact ⟨by rw [E1.out, E2.out]; rfl, B1.out⟩
  · have hf : (tkL false l).2 = true := by rw [← HTR.out.1]; exact HOK.out.symm
    have ho : out = (tkL false l).1 := (Q1.out HOK.out.symm).trans (HTR.out.2 hf)
    have E1 := Lib.hid (show printS l = ⟨(jnF (out.map tkW) (out.map tkW).length).toArray⟩ by unfold printS; rw [hf, if_pos rfl, ho, jn_put _ (tkL_ne false l hf)])
    have E2 := Lib.hid (show printE l = 0 by unfold printE; rw [hf]; rfl)
    have t2 := T1'.out
    clear hf ho
    go_wp2_with fail
    go_loopw [6, 18] (fun o t wr => ∃ q : Nat, q ≤ out.length ∧ t = .int .i64 q ∧ Hid (OwnL (Flat encA okA) 3 55 wr w1.heap.size Nowhere ((out.take q).map tkW) o) ∧ Hid (Below w1.heap.size w1 wr)) (fun _ t _ => out.length - (intOf t).toNat)
    case atStart => exact ⟨0, by omega, rfl, Lib.hid (by rw [List.take_zero]; exact OwnL.nil _ _ _), Lib.hid (Below.refl _ _)⟩
    case round =>
      obtain ⟨q, hq, rfl, HO, HB⟩ := hrel
      by_cases hlt : q < out.length
      · have hza := HB.out.size
        have RPq := RX.out.go Flat.keeps HB.out (fun b h => h.2) (Sub.refl _)
        obtain ⟨bq, oq, hA, hbq, hokp, hcp⟩ := RdSs.at1 RPq hlt
        subst hA
        have HT := Lib.hid (show (out.take (q + 1)).map tkW = (out.take q).map tkW ++ [tkW out[q]] by rw [List.take_succ_eq_append_getElem hlt, List.map_append]; rfl)
        have hll : ((out.take q).map tkW).length = q := by rw [List.length_map, List.length_take_of_le (by omega)]
        obtain ⟨p, hp⟩ : ∃ p, out[q] = p := ⟨_, rfl⟩
        rw [hp] at hokp hcp HT
        have HFL := Lib.hid (fun (W : World) => (show Flat encA okA W Nowhere (tkW p) [.int .i64 0, .int .i64 0, .string p] from ⟨(encA_tk p).symm, okA_tk hokp⟩))
        have hlm : ((out.take q).map tkW).length + 1 ≤ maxLen := by rw [hll]; unfold maxLen; omega
        have hlb : (((out.take q).map tkW).length + 1) * 32 ≤ 140737488355328 := by rw [hll]; omega
        clear RPq hp hll
        go_wp2_with (at_builtin; refine wpList_append_one rfl _ _ 53 rfl i0 _ Tryd.underlying53 hi hz0 hz1 hz2 rfl (by decide) Flat.keeps HO.out (x := tkW p) (cs := [.int .i64 0, .int .i64 0, .string p]) (Tx := Nowhere) (HFL.out _) rfl rfl rfl (Sub.nowhere _) (Sub.nowhere _) not_nowhere (by simp [Value.oneCell']) hlm hlb hza ?_)
        intro v2 w2 ho hg hk2
        have HO2 := Lib.hid (show OwnL (Flat encA okA) 3 55 w2 w1.heap.size Nowhere ((out.take (q + 1)).map tkW) v2 from by rw [HT.out]; first | exact ho | (rw [List.map_take]; exact ho))
        have HB2 := Lib.hid (HB.out.grown hg hza (fun g hg => (HO.out.lt g hg).1))
        clear ho hg hk2 HO HB hlm hlb
        go_wp2_with fail
        go_roundw
        case rel => exact ⟨q + 1, by omega, by go_num, HO2, HB2⟩
        case measure => simp [intOf]; omega
      · have hql : q = out.length := by omega
        subst hql
        rw [List.take_of_length_le (Nat.le_refl _)] at HO
        have htx : textsL (out.map tkW) ≤ 140737488355000 := by rw [texts_tsz]; omega
        have hLl : (out.map tkW).length = out.length := List.length_map ..
        generalize out.map tkW = L at *
        obtain ⟨A9, c9, rfl⟩ := HO.out.form
        have RT := Lib.hid (HO.out.toRd (bytes := 32) (S' := fun b => w1.heap.size ≤ b ∧ b < wr.heap.size) Flat.keeps (by omega) (Sub.nowhere _) (fun b h1 h2 => ⟨h1, h2⟩))
        have hpu : Sub (fun b => w1.heap.size ≤ b ∧ b < wr.heap.size) (Upto wr.heap.size) := fun b h => h.2
        have B2 := Lib.hid (B1.out.trans (HB.out.mono hz1'))
        have hz2' := B2.out.size
        clear HO HB hLl
        go_wp2_with (go_at_call 21; refine (jjoin_any L wr _ _ hpu RT.out htx).mono ?_)
        rintro e w3 ⟨rfl, b3⟩
        have B3 := Lib.hid (B2.out.trans (b3.mono hz2'))
        clear b3
        go_wp2
        go_ret2
        exact ⟨by rw [E1.out, E2.out]; rfl, B3.out⟩
end Go.Proofs.YtijahadmaggncaaDoor
