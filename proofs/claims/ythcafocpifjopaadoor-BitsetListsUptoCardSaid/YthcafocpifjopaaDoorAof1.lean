/- The walk of the reference's AOf. -/
import Derived.Test.YthcafocpifjopaaDoorAoSpec
import Derived.Test.YthcafocpifjopaaDoorRowZ
import Derived.Test.YthcafocpifjopaaDoorInfoU
import Derived.Test.YthcafocpifjopaaDoorBsSpec
import Derived.BigRegion
namespace Go.Proofs.YthcafocpifjopaaDoor
open Go.RowKit
set_option linter.unusedVariables false
theorem infoAo : (Tryd.prog.info? 3).map (fun i => (i.zero, i.size, i.bytes)) = some (some (.int .i64 0), 1, 8) := by kernel_rfl
theorem tickZ_len (l : List Int) : (tickZ l).length ≤ l.length := List.length_filter_le _ _
theorem compactT (l : List Int) : Lib.compact (sortZ (tickZ l)) = sortT l := compact_sort (tickZ l)
/-- the row has been sorted -/
def SortedAt (w : World) (l : List Int) (u : Value) (wx : World) : Prop := Below w.heap.size w wx ∧ ((tickZ l = [] ∧ ∃ Ao co, u = .slice Ao 0 co ∧ co ≤ maxLen) ∨
  (∃ g c, u = .slice (some ⟨g, 0, none⟩) (tickZ l).length c ∧ w.heap.size ≤ g ∧ (tickZ l).length ≤ c ∧ c ≤ maxLen ∧ (∀ x ∈ tickZ l, inI x) ∧ RowZ wx g (sortZ (tickZ l))))
set_option maxHeartbeats 1600000 in
set_option maxRecDepth 100000 in
theorem aof_any (l : List Int) (w : World) (S : Blocks) (v : Value) (hS : Sub S (Upto w.heap.size)) (r : RdI w S l v) :
    Calls Tryd.prog 7 #[v] w fun e w' => ∃ L u, e = .returned u ∧ RdU w' (Plus Nowhere w.heap.size w'.heap.size) L u ∧ SetIs L (fun m => decide (m ≤ 65535) && l.contains (m : Int)) ∧ Below w.heap.size w w' := by
  obtain ⟨A, cap, rfl, hl, hcm, hby⟩ := r.form
  unfold maxLen at hcm
  obtain ⟨i0, hi, hz0, hz1, hz2⟩ := info_parts infoAo
  obtain ⟨i1, hj, hy0, hy1, hy2⟩ := info_parts infoU
  have R := Lib.hid r
  have HS := Lib.hid hS
  clear r hS
  go_enter Tryd.func7, Tryd.ntmps7
  go_wp2
  go_loopw [3, 11] (fun o t wr => ∃ q : Nat, q ≤ l.length ∧ t = .int .i64 q ∧ Hid (OwnI 3 wr w.heap.size Nowhere (tickZ (l.take q)) o) ∧ Below w.heap.size w wr) (fun _ t _ => l.length - (intOf t).toNat)
  case atStart => exact ⟨0, by omega, rfl, Lib.hid (OwnL.nil _ _ _), Below.refl _ _⟩
  case round =>
    obtain ⟨q, hq, rfl, O, hb⟩ := hrel
    by_cases hlt : q < l.length
    · skip
      obtain ⟨b, off, rfl, _, hok, hc⟩ := RdI.at1 (R.out.go Flat.keeps hb HS.out (Sub.refl _)) hlt
      have HT := Lib.hid (tickZ_snoc l q hlt)
      have hlen : (tickZ (l.take q)).length ≤ q := by have := tickZ_len (l.take q); rw [List.length_take] at this; omega
      have HLE := Lib.hid hlen
      obtain ⟨x, hx⟩ : ∃ x, x = l[q] := ⟨_, rfl⟩
      rw [← hx] at hc hok HT
      have hsz := hb.size
      have HB := Lib.hid hb
      clear hx hb hlen
      by_cases hin : 0 ≤ x ∧ x ≤ 65535
      · obtain ⟨h1, h2⟩ := hin
        have HT2 := Lib.hid (show tickZ (l.take q) ++ [x] = tickZ (l.take (q + 1)) by rw [HT.out, if_pos (by simp [inTick]; omega)])
        clear HT
        go_wp2_with (at_builtin; refine wpList_append_one rfl _ _ 22 rfl i0 _ Tryd.underlying22 hi hz0 hz1 hz2 rfl (by decide) Flat.keeps O.out (x := x) (cs := [Value.int .i64 x]) (Tx := Nowhere) ?d0 rfl rfl rfl (Sub.nowhere _) (Sub.nowhere _) not_nowhere ?d1 ?d2 ?d3 ?d4 ?_)
        case d0 => exact ⟨rfl, hok⟩
        case d1 => simp [Value.oneCell']
        case d2 => have := HLE.out; unfold maxLen; omega
        case d3 => have := HLE.out; omega
        try (case d4 => exact hsz)
        intro v2 w2 ho2 hg2 _
        rw [HT2.out] at ho2
        have HO2 := Lib.hid ho2
        have HB2 := Lib.hid (HB.out.grown hg2 hsz (fun g hg => (O.out.lt g hg).1))
        clear ho2 hg2
        go_wp2_with fail
        go_roundw
        case rel => exact ⟨q + 1, by omega, by go_num, HO2, HB2.out⟩
        case measure => simp [intOf]; omega
      · have HT2 := Lib.hid (show tickZ (l.take q) = tickZ (l.take (q + 1)) by rw [HT.out, if_neg (by simp [inTick]; omega)])
        clear HT
        by_cases h1 : 0 ≤ x
        · have h2 : ¬ x ≤ 65535 := fun h => hin ⟨h1, h⟩
          clear hin
          go_wp2_with fail
          go_roundw
          case rel => exact ⟨q + 1, by omega, by go_num, Lib.hid (by rw [← HT2.out]; exact O.out), HB.out⟩
          case measure => simp [intOf]; omega
        · clear hin
          go_wp2_with fail
          go_roundw
          case rel => exact ⟨q + 1, by omega, by go_num, Lib.hid (by rw [← HT2.out]; exact O.out), HB.out⟩
          case measure => simp [intOf]; omega
    · skip
      have hqe : q = l.length := by omega
      subst hqe
      rw [List.take_length] at O
      have hlen := tickZ_len l
      have HB := Lib.hid hb
      have hsz := hb.size
      clear hb hq hlt
      go_upto_region 8 with (fail)
      go_cut [3] (fun u wx => SortedAt w l u wx)
      case first =>
        rcases Nat.eq_zero_or_pos (tickZ l).length with h0 | h0
        · have hnil : tickZ l = [] := List.eq_nil_of_length_eq_zero h0
          obtain ⟨Ao, co, he, _, hcm2, _⟩ := (O.out.toRd (bytes := 8) (S' := fun _ => True) Flat.keeps (by rw [h0]; simp) (Sub.nowhere _) (fun _ _ _ => trivial)).form
          rw [h0] at he
          subst he
          have HN := Lib.hid hnil
          clear O hnil h0
          go_wp2_with fail
          refine (sort_none Ao co _).mono ?_
          rintro e w' ⟨⟨x, rfl⟩, rfl⟩
          go_wp2_with fail
          go_meet
          exact ⟨HB.out, .inl ⟨HN.out, Ao, co, rfl, hcm2⟩⟩
        · obtain ⟨g, c, rfl, hge, hlc, hcm2, hrow, hok⟩ := rowZ_of O.out h0
          have HROW := Lib.hid hrow
          have HOK := Lib.hid hok
          have HLC := Lib.hid hlc
          have HCM := Lib.hid hcm2
          clear O hrow hok hlc hcm2
          go_wp2_with fail
          refine (sort_any (tickZ l) g c _ HROW.out (by omega)).mono ?_
          rintro e w2 ⟨⟨x, rfl⟩, hr2, hb2⟩
          have HR2 := Lib.hid hr2
          have HB3 := Lib.hid (HB.out.trans (hb2.below (B := w.heap.size) HB.out.size (fun k e => by unfold Is at e; omega)))
          clear hr2 hb2 HROW
          go_wp2_with fail
          go_meet
          exact ⟨HB3.out, .inr ⟨g, c, rfl, hge, HLC.out, HCM.out, HOK.out, HR2.out⟩⟩
      case rest =>
        obtain ⟨hbc, hcase⟩ := hcut
        have HBC := Lib.hid hbc
        clear hbc O HB hsz
        go_upto_region 9 with (fail)
        go_cut [3] (fun u wx => ∃ T, Hid (RdI wx T (sortT l) u) ∧ Hid (Sub T (Upto wx.heap.size)) ∧ Below w.heap.size w wx)
        case first =>
          rcases hcase with ⟨hnil, Ao, co, rfl, hcm2⟩ | ⟨g, c, rfl, hge, hlc, hcm2, hok, hr2⟩
          · have HN := Lib.hid (show sortT l = [] by unfold sortT; rw [hnil]; simp [firsts, sortZ])
            clear hnil
            go_wp2_with fail
            refine (compact_none Ao co _).mono ?_
            rintro e w' ⟨rfl, rfl⟩
            go_wp2_with fail
            go_meet
            exact ⟨Nowhere, Lib.hid (by rw [HN.out]; exact RdL.nil hcm2), Lib.hid (Sub.nowhere _), HBC.out⟩
          · have hcon := compact_any (sortZ (tickZ l)) g c wc hr2 (by rw [sortZ_len]; exact hlc) hcm2 (fun x hx => hok x ((sortZ_mem _ _).1 hx)) (by rw [sortZ_len]; omega) (fun x hx => compact_mem hx)
            rw [sortZ_len, compactT] at hcon
            have HCON := Lib.hid hcon
            have HGL := Lib.hid hr2.lt
            clear hr2 hcon hok hlc hcm2
            go_wp2_with fail
            refine HCON.out.mono ?_
            rintro e w3 ⟨u, rfl, hu, hb3⟩
            have HU := Lib.hid hu
            have HB4 := Lib.hid (HBC.out.trans (hb3.below (B := w.heap.size) HBC.out.size (fun k e => by unfold Is at e; omega)))
            have HZ := Lib.hid hb3.size
            clear hu hb3
            go_wp2_with fail
            go_meet
            exact ⟨Is g, HU, Lib.hid (fun b hb => by unfold Is at hb; subst hb; exact Nat.lt_of_lt_of_le HGL.out HZ.out), HB4.out⟩
        case rest =>
          clear hcase HBC
          obtain ⟨T, RC, HTT, hbc⟩ := hcut
          obtain ⟨Ac, cc, rfl, _, hccm, hcby⟩ := RC.out.form
          have HBC := Lib.hid hbc
          have HPW := Lib.hid (sortT_lt l)
          have HME := Lib.hid (show ∀ x ∈ sortT l, 0 ≤ x ∧ x ≤ 65535 from fun x hx => (sortT_mem.1 hx).2)
          have HALL := Lib.hid (hasT_all l)
          obtain ⟨c, hc⟩ : ∃ c, c = sortT l := ⟨_, rfl⟩
          rw [← hc] at RC HPW HME HALL hcby ⊢
          obtain ⟨W1, hW1⟩ : ∃ W1 : World, W1 = wc := ⟨_, rfl⟩
          subst hW1
          clear hc hbc hi hz0 hz1 hz2
          go_wp2
          go_loopw [6, 32] (fun o t wr => ∃ (q : Nat) (Z : List Nat), q ≤ c.length ∧ t = .int .i64 q ∧ Hid (OwnU 25 wr W1.heap.size Nowhere Z o) ∧ Hid (SetIs Z (hasT c q)) ∧ Z.length ≤ 1024 ∧ Below W1.heap.size W1 wr) (fun _ t _ => c.length - (intOf t).toNat)
          case atStart => exact ⟨0, [], by omega, rfl, Lib.hid (OwnL.nil _ _ _), Lib.hid (SetIs.nil.congr fun m => by simp [hasT]), by simp, Below.refl _ _⟩
          case round =>
            obtain ⟨q, Z, hq, rfl, O, HZ, hZl, hb⟩ := hrel
            obtain ⟨wo, hwo⟩ : ∃ wo : World, wo = wr := ⟨_, rfl⟩
            subst hwo
            by_cases hlt : q < c.length
            · skip
              obtain ⟨bb, off, rfl, _, hok, hce⟩ := RdI.at1 (RC.out.go Flat.keeps hb HTT.out (Sub.refl _)) hlt
              obtain ⟨h1, h2⟩ := HME.out _ (List.getElem_mem hlt)
              obtain ⟨n, hn⟩ : ∃ n : Nat, c[q] = (n : Int) := ⟨c[q].toNat, by omega⟩
              have HNX := Lib.hid (set_next HPW.out hlt hn HZ.out)
              have hbn : bitB Z n = false := by rw [HZ.out.bit]; exact hasT_new HPW.out hlt hn
              have HSU := Lib.hid (word_sum HZ.out hbn)
              rw [hn] at hce h2
              have hn6 : n ≤ 65535 := by omega
              have HBO := Lib.hid hb
              clear hok h1 h2 hn hbn hb
              obtain ⟨A1, c1, rfl⟩ := O.out.form
              go_wp2_with fail
              go_loopw [6] (fun o wr => ∃ (k : Nat) (A : Option Addr) (c : Nat), o = .slice A (Z.length + k) c ∧ Hid (OwnU 25 wr W1.heap.size Nowhere (Z ++ List.replicate k 0) o) ∧ Hid (Below W1.heap.size W1 wr) ∧ (k = 0 ∨ Z.length + k ≤ n / 64 + 1))
                (fun o _ => match o with | .slice _ m _ => n / 64 + 1 - m | _ => 0)
              case atStart => exact ⟨0, A1, c1, rfl, Lib.hid (by simpa using O.out), HBO, .inl rfl⟩
              case round =>
                clear O HBO hce
                obtain ⟨k, A2, c2, rfl, O, HBO, hk⟩ := hrel
                by_cases hlt2 : Z.length + k ≤ n / 64
                · have hsz := HBO.out.size
                  go_wp2_with (at_builtin; refine wpList_append_one rfl _ _ 23 rfl i1 _ Tryd.underlying23 hj hy0 hy1 hy2 rfl (by decide) Flat.keeps O.out (x := (0 : Nat)) (cs := [Value.int .u64 0]) (Tx := Nowhere) ?c0 rfl rfl rfl (Sub.nowhere _) (Sub.nowhere _) not_nowhere ?c1 ?c2 ?c3 ?c4 ?_)
                  case c0 => exact ⟨rfl, by unfold okU; omega⟩
                  case c1 => simp [Value.oneCell']
                  case c2 => simp [maxLen]; omega
                  case c3 => simp; omega
                  case c4 => exact hsz
                  intro v2 w2 ho2 hg2 _
                  have HB3 := Lib.hid (HBO.out.grown hg2 hsz (fun g hg => (O.out.lt g hg).1))
                  have ho3 : OwnU 25 w2 W1.heap.size Nowhere (Z ++ List.replicate (k + 1) 0) v2 := by rw [List.replicate_succ']; simpa using ho2
                  clear ho2 hg2
                  obtain ⟨A3, c3, hv2⟩ := ho3.form
                  simp only [List.length_append, List.length_replicate] at hv2
                  subst hv2
                  have HO3 := Lib.hid ho3
                  clear ho3
                  go_wp2
                  go_roundw
                  case rel => exact ⟨k + 1, A3, c3, rfl, HO3, HB3, .inr (by omega)⟩
                  case measure => simp; omega
                · have hkq : k = n / 64 + 1 - Z.length := by omega
                  have hp : Z ++ List.replicate k 0 = padL Z (n / 64 + 1) := by rw [hkq]; rfl
                  have ho4 := O.out
                  rw [hp] at ho4
                  have hpl : (padL Z (n / 64 + 1)).length = Z.length + k := by rw [padL_length]; omega
                  have hnl : n / 64 < Z.length + k := by omega
                  obtain ⟨gb, cap2, hv, hg1, hg2, hg3, hg4, hfr, hcell⟩ := ho4.open_ (by omega)
                  injection hv with e1 e2 e3
                  clear e2
                  subst e1 e3
                  obtain ⟨x, hx⟩ : ∃ x : Nat, x = (Z[n / 64]?).getD 0 := ⟨_, rfl⟩
                  have hc0 : wr.cell? ⟨gb, n / 64, none⟩ = some (.int .u64 (x : Int)) := by
                    have h := (hcell (n / 64) (by omega)).2
                    have e : (padL Z (n / 64 + 1))[n / 64]'(by omega) = x := by
                      rw [hx, ← padL_get Z (n / 64 + 1), List.getElem?_eq_getElem (by omega)]; rfl
                    rw [e] at h
                    exact h
                  have hsum := HSU.out
                  rw [← hx] at hsum
                  have hf0 := hfr (n / 64)
                  have hset := OwnU.set_ ho4 (q := n / 64) (by omega) (x + 2 ^ (n % 64)) hsum
                  have hbs := HBO.out.setCell (p := ⟨gb, n / 64, none⟩) hg1 (.int .u64 ((x + 2 ^ (n % 64) : Nat) : Int))
                  have hadd : (padL Z (n / 64 + 1)).set (n / 64) (x + 2 ^ (n % 64)) = addB Z n := by rw [hx]; rfl
                  rw [hadd] at hset
                  have HS := Lib.hid (hset.keep Flat.keeps (Below.refl _ _).drew)
                  have HBS := Lib.hid hbs.drew
                  have HAL := Lib.hid (show (addB Z n).length ≤ 1024 by rw [addB_length]; omega)
                  clear hset hbs hx hpl hp hkq ho4 hfr hcell O hadd
                  go_wp2
                  go_region
                  have hp64 := Nat.two_pow_pos (n % 64)
                  have hw1 : IntKind.u64.wrap ((2 : Int) ^ (n % 64)) = ((2 ^ (n % 64) : Nat) : Int) := by
                    have e : ((2 : Int) ^ (n % 64)) = ((2 ^ (n % 64) : Nat) : Int) := by simp
                    rw [e, IntKind.wrap_u64]; omega
                  have hw2 : IntKind.u64.wrap ((x : Int) + ((2 ^ (n % 64) : Nat) : Int)) = ((x + 2 ^ (n % 64) : Nat) : Int) := by
                    rw [IntKind.wrap_u64]; omega
                  rw [hw1, hw2]
                  clear hw1 hw2 hp64
                  have HS2 := HS.out
                  have HBS2 := HBS.out
                  generalize (wr.setCell ⟨gb, n / 64, none⟩ (.int .u64 ((x + 2 ^ (n % 64) : Nat) : Int))).drew = W2 at HS2 HBS2 ⊢
                  clear HS HBS hc0 hf0 hg1 hg2 hg3
                  have HS3 := Lib.hid HS2
                  have HBS3 := Lib.hid HBS2
                  clear HS2 HBS2
                  go_wp2
                  go_roundw
                  case rel => exact ⟨q + 1, addB Z n, by omega, by go_num, HS3, HNX, HAL.out, HBS3.out⟩
                  case measure => simp [intOf]; omega
            · skip
              have hqe : q = c.length := by omega
              subst hqe
              have HS2 := Lib.hid (HZ.out.congr HALL.out)
              have HBF := Lib.hid (HBC.out.trans (hb.mono HBC.out.size))
              have HRF := Lib.hid (O.out.toRd (bytes := 8) (S' := Plus Nowhere w.heap.size wo.heap.size) Flat.keeps (by omega) (Sub.nowhere _) (fun b h1 h2 => .inr ⟨Nat.le_trans HBC.out.size h1, h2⟩))
              clear O HZ hb
              go_wp2
              go_ret
              exact ⟨Z, _, rfl, HRF.out, HS2.out, HBF.out⟩
end Go.Proofs.YthcafocpifjopaaDoor
