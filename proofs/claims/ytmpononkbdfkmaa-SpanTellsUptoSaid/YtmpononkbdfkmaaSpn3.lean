/- The walk of the reference's ESpan. -/
import Derived.Test.YtmpononkbdfkmaaEsSpec
import Derived.Test.YtmpononkbdfkmaaBf2
import Derived.Test.YtmpononkbdfkmaaUf2
import Derived.Deep.CutBlock
namespace Go.Proofs.Ytmpononkbdfkmaa
open Go.RowKit
set_option linter.unusedVariables false
def Tm.endsI (t : Tm) (j : Nat) : List Int := (t.ends.take j).map fun (k : Nat) => (k : Int)
theorem Tm.endsI_len (t : Tm) {j : Nat} (h : j ≤ t.count) : (t.endsI j).length = j := by unfold Tm.endsI; rw [List.length_map, List.length_take, Tm.ends_len]; omega
theorem Tm.endsI_get (t : Tm) {i j : Nat} (h : i < j) (hj : j ≤ t.count) : (t.endsI j)[i]? = some (t.e i : Int) := by
  unfold Tm.endsI
  rw [List.getElem?_map, List.getElem?_take, if_pos h, Tm.e_get t (by omega)]; rfl
theorem Tm.endsI_succ (t : Tm) {j : Nat} (h : j < t.count) : t.endsI (j + 1) = t.endsI j ++ [(t.e j : Int)] := by
  unfold Tm.endsI
  have hl : j < t.ends.length := by rw [Tm.ends_len]; exact h
  rw [List.take_succ_eq_append_getElem hl, List.map_append]
  congr 1
  have := Tm.e_get t h
  rw [List.getElem?_eq_getElem hl] at this
  injection this with this
  rw [this]; rfl
theorem Tm.best_succ (t : Tm) {j : Nat} (h : j < t.count) : maxL (t.ends.take (j + 1)) = max (maxL (t.ends.take j)) (t.e j) := by
  have hl : j < t.ends.length := by rw [Tm.ends_len]; exact h
  have := Tm.e_get t h
  rw [List.getElem?_eq_getElem hl] at this
  injection this with this
  rw [List.take_succ_eq_append_getElem hl, maxL_append, maxL_one, this]
theorem befB_nat {t : Tm} {i j : Nat} (hi : i < t.count) (hj : j < t.count) : befB t i j = t.ahead i j := by
  unfold befB
  rw [decide_eq_true (by omega), Bool.true_and, Int.toNat_natCast, Int.toNat_natCast]
set_option maxHeartbeats 1600000 in
set_option maxRecDepth 100000 in
theorem espan_any (t : Tm) (w : World) (S : Blocks) (V : Value) (hS : Sub S (Upto w.heap.size)) (r : RdT w S t V) (hl : t.count ≤ 1048576) :
    Calls Try.prog 57 #[V] w fun e w' => e = .returned (.int .i64 (t.sumT true : Int)) ∧ Below w.heap.size w w' := by
  obtain ⟨i0, hi, hz0, hz1, hz2⟩ := info_parts infoI
  obtain ⟨k, c, wr, lb, kids, v, et, rfl, h1, h2, h3, h4⟩ := id r
  obtain ⟨A1, n1, rfl, _⟩ := h4.form
  have bel : Below w.heap.size w (w.alloc (.cells #[.int .i64 k, .int .i64 c, .bool wr, .int .i64 lb, .slice A1 kids.length n1] 64)) := (Below.refl _ _).alloc (Nat.le_refl _) _
  have BEL := Lib.hid bel
  have RA := Lib.hid (r.go bel hS)
  have BB := Lib.hid (Blk.made w [.int .i64 k, .int .i64 c, .bool wr, .int .i64 lb, .slice A1 kids.length n1] 64 (base := 0) (Nat.zero_le _))
  have hsz : (w.alloc (.cells #[.int .i64 k, .int .i64 c, .bool wr, .int .i64 lb, .slice A1 kids.length n1] 64)).heap.size = w.heap.size + 1 := by simp
  have HS := Lib.hid hS
  have HN := Lib.hid (show t.leaves.length = t.count from rfl)
  unfold tmV
  clear h4 bel r et h1 h2 h3 hS
  go_enter Try.func57, Try.ntmps57
  go_wp2_with fail
  generalize w.alloc (.cells #[.int .i64 k, .int .i64 c, .bool wr, .int .i64 lb, .slice A1 kids.length n1] 64) = W at *
  obtain ⟨z, hz⟩ : ∃ z, z = w.heap.size := ⟨_, rfl⟩
  rw [← hz] at BB hsz
  have hzz1 := Nat.le_of_eq hz
  have hzz2 := Nat.le_of_eq hz.symm
  have hW1 := Nat.le_of_eq hsz
  have hW2 := Nat.le_of_eq hsz.symm
  rw [← hz]
  clear hz hsz
  refine (dls_all t W S _ (HS.out.trans (Sub.upto (by omega))) RA.out hl).mono ?_
  rintro e w1 ⟨x, rfl, hx, hb1⟩
  obtain ⟨A2, n2, rfl⟩ := hx.form
  have hs1 := hb1.size
  have BEL1 := Lib.hid (BEL.out.trans (hb1.mono (by omega)))
  have RA1 := Lib.hid (RA.out.go hb1 (HS.out.trans (Sub.upto (by omega))))
  have B1 := Lib.hid (BB.out.below hb1)
  obtain ⟨n, hn⟩ : ∃ n, n = t.count := ⟨_, rfl⟩
  have HNN := Lib.hid hn
  have hn20 : n ≤ 1048576 := by omega
  rw [HN.out, ← hn]
  clear hx hb1 hn RA BB BEL
  go_wp2_with fail
  go_loopw [3, 4, 11] (fun o bst tt wr => ∃ j : Nat, j ≤ n ∧ tt = .int .i64 (j : Int) ∧ bst = .int .i64 (maxL (t.ends.take j) : Int) ∧ OwnI 3 wr w1.heap.size Nowhere (t.endsI j) o ∧ Below w1.heap.size w1 wr) (fun _ _ tt _ => n - (intOf tt).toNat)
  case atStart => exact ⟨0, by omega, rfl, rfl, OwnL.nil _ _ _, Below.refl _ _⟩
  case round =>
    obtain ⟨j, hj, rfl, rfl, ho, hb⟩ := hrel
    by_cases hlt : j < n
    · obtain ⟨A3, c3, rfl⟩ := ho.form
      have hle := Tm.endsI_len t (j := j) (by have := HNN.out; omega)
      rw [hle] at ho
      have HO := Lib.hid ho
      have HB := Lib.hid hb
      rw [hle]
      have hjc := Lib.hid (show j < t.count by rw [← HNN.out]; exact hlt)
      have hej := Tm.e_le t hjc.out
      have hmb : maxL (t.ends.take j) ≤ 1048576 := by
        have h1 := maxL_append (t.ends.take j) (t.ends.drop j)
        rw [List.take_append_drop, Tm.ends_max] at h1
        have := Tm.sumT_le true t
        omega
      obtain ⟨bst, hbst⟩ : ∃ bst, bst = maxL (t.ends.take j) := ⟨_, rfl⟩
      rw [← hbst] at hmb ⊢
      have HBST := Lib.hid hbst
      obtain ⟨wo, hwo⟩ : ∃ wo : World, wo = wr := ⟨_, rfl⟩
      clear ho hb hle hbst hwo
      go_wp2_with fail
      go_loopw [6, 15] (fun nn ii wi => ∃ i : Nat, i ≤ j ∧ ii = .int .i64 (i : Int) ∧ nn = .int .i64 (t.dp j i : Int) ∧ OwnI 3 wi w1.heap.size Nowhere (t.endsI j) (.slice A3 j c3) ∧ Below w1.heap.size w1 wi) (fun _ ii _ => j - (intOf ii).toNat)
      case atStart => exact ⟨0, by omega, rfl, rfl, HO.out, HB.out⟩
      case round =>
        clear HO HB
        obtain ⟨i, hij, rfl, rfl, ho, hb⟩ := hrel
        have hdp := Tm.dp_le t hjc.out i hij
        by_cases hlt2 : i < j
        · have BX := B1.out.below hb
          have x0 := BX.cell 0 _ rfl
          have x1 := BX.cell 1 _ rfl
          have x2 := BX.cell 2 _ rfl
          have x3 := BX.cell 3 _ rfl
          have x4 := BX.cell 4 _ rfl
          have RX := Lib.hid (RA1.out.go hb (HS.out.trans (Sub.upto (by omega))))
          have hs2 := hb.size
          have HO := Lib.hid ho
          have HB := Lib.hid hb
          have hic := Lib.hid (show i < t.count by have := hjc.out; omega)
          have HBF := Lib.hid (befB_nat hic.out hjc.out)
          have hle := Tm.endsI_len t (j := j) (by have := hjc.out; omega)
          have hei := Tm.e_le t hic.out
          clear ho hb BX
          go_wp2_with fail
          refine (dbs_all t (i : Int) (j : Int) _ S _ (HS.out.trans (Sub.upto (by omega))) RX.out hl).mono ?_
          rintro e w4 ⟨rfl, hb4⟩
          have HO4 := Lib.hid (HO.out.keep Flat.keeps hb4)
          have HB4 := Lib.hid (HB.out.trans (hb4.mono (by omega)))
          rw [HBF.out]
          obtain ⟨g, cp, hv, hg1, hg2, hg3, hg4, hfr, hcell⟩ := OwnI.open_ HO4.out (by rw [hle]; omega)
          injection hv with e1 e2 e3
          subst e1 e3
          clear e2
          have hci := (hcell i (by rw [hle]; exact hlt2)).2
          have hgi := Tm.endsI_get t hlt2 (by have := hjc.out; omega)
          rw [List.getElem?_eq_getElem (by rw [hle]; exact hlt2)] at hgi
          injection hgi with hgi
          rw [hgi] at hci
          clear hcell hfr hb4 HB HO x0 x1 x2 x3 x4 RX hgi hg3 hle
          by_cases hah : t.ahead i j = true
          · have HD := Lib.hid (show t.dp j (i + 1) = max (t.dp j i) (t.e i + 1) by simp only [Tm.dp]; rw [if_pos hah])
            rw [hah]
            clear hah
            go_wp2
            all_goals go_roundw
            all_goals first
              | exact ⟨i + 1, by omega, by go_num, by rw [HD.out]; first | go_num | (congr 1; omega), HO4.out, HB4.out⟩
              | (simp [intOf]; omega)
          · have HD := Lib.hid (show t.dp j (i + 1) = t.dp j i by simp only [Tm.dp]; rw [if_neg hah])
            have hahf : t.ahead i j = false := by simpa using hah
            rw [hahf]
            clear hah hahf
            go_wp2
            go_roundw
            case rel => exact ⟨i + 1, by omega, by go_num, by rw [HD.out], HO4.out, HB4.out⟩
            case measure => simp [intOf]; omega
        · have hij2 : i = j := by omega
          subst hij2
          have HDP := Lib.hid (Tm.dp_eq t hjc.out)
          have hdpo := Tm.dp_one t i i
          have HO := Lib.hid ho
          have HB := Lib.hid hb
          have hs2 := hb.size
          have HLE := Lib.hid (Tm.endsI_len t (j := i) (by have := hjc.out; omega))
          have HSC := Lib.hid (Tm.endsI_succ t hjc.out)
          have HBS := Lib.hid (Tm.best_succ t hjc.out)
          clear ho hb
          go_wp2_with (at_builtin; refine wpList_append_one rfl _ _ 37 rfl i0 _ Try.underlying37 hi hz0 hz1 hz2 rfl (by decide) Flat.keeps HO.out (x := (t.dp i i : Int)) (cs := [Value.int .i64 (t.dp i i : Int)]) (Tx := Nowhere) ?c0 rfl rfl rfl (Sub.nowhere _) (Sub.nowhere _) not_nowhere ?c1 ?c2 ?c3 ?c4 ?_)
          case c0 => exact ⟨rfl, by unfold inI; omega⟩
          case c1 => simp [Value.oneCell']
          case c2 => rw [HLE.out]; simp [maxLen]; omega
          case c3 => rw [HLE.out]; omega
          case c4 => exact hs2
          intro v2 w3 ho4 hg4 _
          have HO4 := Lib.hid (show OwnI 3 w3 w1.heap.size Nowhere (t.endsI (i + 1)) v2 by rw [HSC.out, ← HDP.out]; exact ho4)
          have HB4 := Lib.hid (HB.out.grown hg4 hs2 (fun g hg => (OwnL.lt HO.out g hg).1))
          clear ho4 hg4 HO HB
          go_wp2
          all_goals go_roundw
          all_goals first
            | exact ⟨i + 1, by omega, by go_num, by rw [HBS.out, ← HBST.out, ← HDP.out]; first | go_num | (congr 1; omega), HO4.out, HB4.out⟩
            | (simp [intOf]; omega)
    · have hjn : j = n := by omega
      subst hjn
      have HR := Lib.hid (show maxL (t.ends.take j) = t.sumT true by rw [HNN.out, ← Tm.ends_len, List.take_length, Tm.ends_max])
      clear ho
      go_wp2
      go_ret
      exact ⟨by rw [HR.out]; rfl, BEL1.out.trans (hb.mono (by omega))⟩
end Go.Proofs.Ytmpononkbdfkmaa
