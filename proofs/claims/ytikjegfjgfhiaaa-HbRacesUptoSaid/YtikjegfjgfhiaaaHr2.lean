/- The walk of the reference's SRaces. -/
import Derived.Test.YtikjegfjgfhiaaaHr1
import Derived.Test.YtikjegfjgfhiaaaHb3
namespace Go.Proofs.Ytikjegfjgfhiaaa
open Go.RowKit
set_option linter.unusedVariables false
set_option maxHeartbeats 8000000 in
set_option maxRecDepth 100000 in
theorem sraces_any (l : List HEv) (w : World) (S : Blocks) (v : Value) (hS : Sub S (Upto w.heap.size)) (r : RdEvs w S l v) (hll : l.length ≤ 1048576) :
    Calls Try.prog 14 #[v] w fun e w' => ∃ x, e = .returned x ∧ RdP w' (Plus Nowhere w.heap.size w'.heap.size) (racesH l l.length) x ∧ Below w.heap.size w w' := by
  obtain ⟨A, cap, rfl, hl, hcm, hby⟩ := r.form
  unfold maxLen at hcm
  obtain ⟨i0, hi, hz0, hz1, hz2⟩ := info_parts infoPr
  have R := Lib.hid r
  have HS := Lib.hid hS
  clear r hS
  go_enter Try.func14, Try.ntmps14
  go_wp2_with fail
  refine (sreach_any l w S _ HS.out R.out).mono ?_
  rintro e w1 ⟨g, gs, rfl, hgl, hm, b1⟩
  have HM := Lib.hid hm
  have HGL := Lib.hid hgl
  have B1 := Lib.hid b1
  clear hm hgl b1
  go_wp2_with fail
  go_loopw [4, 13] (fun o t wr => ∃ q : Nat, q ≤ l.length ∧ t = .int .i64 q ∧ Hid (OwnP 33 wr w1.heap.size Nowhere (racesH l q) o) ∧ Below w1.heap.size w1 wr) (fun _ t _ => l.length - (intOf t).toNat)
  case atStart => exact ⟨0, by omega, rfl, Lib.hid (OwnL.nil _ _ _), Below.refl _ _⟩
  case round =>
    obtain ⟨q, hq, rfl, HO, hb⟩ := hrel
    have hz0' := hb.size
    by_cases hlt : q < l.length
    · have R1 := R.out.go Flat.keeps B1.out HS.out (Sub.refl _)
      obtain ⟨b, off, rfl, hbS, hok, hc⟩ := RdEvs.at_ R1 hlt
      have hbw : b < w1.heap.size := Nat.lt_of_lt_of_le (HS.out _ hbS) B1.out.size
      have hbr : b < wr.heap.size := by omega
      rcases hev : evAt l q with ⟨k', a', ot', ce', wt', lb'⟩
      rw [hev] at hok hc
      have e0 := (hb.cell (p := ⟨b, off + q * 6, none⟩) hbw).trans (hc 0 _ rfl)
      have e1 := (hb.cell (p := ⟨b, off + q * 6 + 1, none⟩) hbw).trans (hc 1 _ rfl); have e2 := (hb.cell (p := ⟨b, off + q * 6 + 2, none⟩) hbw).trans (hc 2 _ rfl); have e3 := (hb.cell (p := ⟨b, off + q * 6 + 3, none⟩) hbw).trans (hc 3 _ rfl); have e4 := (hb.cell (p := ⟨b, off + q * 6 + 4, none⟩) hbw).trans (hc 4 _ rfl); have e5 := (hb.cell (p := ⟨b, off + q * 6 + 5, none⟩) hbw).trans (hc 5 _ rfl)
      have HEb := Lib.hid hev
      have HOKb := Lib.hid hok
      have hbel : Below wr.heap.size wr (wr.alloc (.cells #[.int .i64 k', .int .i64 a', .int .i64 ot', .int .i64 ce', .bool wt', .int .i64 lb'] 61)) := (Below.refl _ _).alloc (Nat.le_refl _) _
      have HO1 := Lib.hid (HO.out.keep Flat.keeps hbel)
      have HD := Lib.hid (Blk.made wr [.int .i64 k', .int .i64 a', .int .i64 ot', .int .i64 ce', .bool wt', .int .i64 lb'] 61 (base := 0) (Nat.zero_le _))
      have HNO := Lib.hid (show ∀ g, u4.ownBlock = some g → g ≠ wr.heap.size from fun g hg e => by have := (HO.out.lt g hg).2; omega)
      have hB1 : Below w1.heap.size w1 (wr.alloc (.cells #[.int .i64 k', .int .i64 a', .int .i64 ot', .int .i64 ce', .bool wt', .int .i64 lb'] 61)) := hb.trans (hbel.mono hz0')
      have q0 : (0 : Int) ≤ (q : Int) := by omega
      have q1 : (q : Int) ≤ (l.length : Int) := by omega
      have q2 : (q : Int) ≤ (cap : Int) := by omega
      have q3 : q ≤ cap := by omega
      have q4 : (q : Int) < (l.length : Int) := by omega
      obtain ⟨d, hd⟩ : ∃ d, d = wr.heap.size := ⟨_, rfl⟩
      rw [← hd] at HD HNO
      go_upto_region 6 with (fail)
      rw [← hd]
      have hdl : d < ((wr.alloc (.cells #[.int .i64 k', .int .i64 a', .int .i64 ot', .int .i64 ce', .bool wt', .int .i64 lb'] 61))).heap.size := HD.out.lt
      clear hd hok hc hev e0 e1 e2 e3 e4 e5 HO hbel hb hbr
      generalize (wr.alloc (.cells #[.int .i64 k', .int .i64 a', .int .i64 ot', .int .i64 ce', .bool wt', .int .i64 lb'] 61)) = W at *
      go_wp2_with fail
      go_loopw [4, 22] (fun o t wi => ∃ p : Nat, p ≤ q ∧ t = .int .i64 p ∧ Hid (OwnP 33 wi w1.heap.size Nowhere (racesH l q ++ rowR l q p) o) ∧ Hid (Blk 0 wi d [.int .i64 k', .int .i64 a', .int .i64 ot', .int .i64 ce', .bool wt', .int .i64 lb']) ∧ Hid (∀ g, o.ownBlock = some g → g ≠ d) ∧ Below w1.heap.size w1 wi) (fun _ t _ => q - (intOf t).toNat)
      case atStart => exact ⟨0, by omega, rfl, Lib.hid (by simpa [rowR] using HO1.out), HD, HNO, hB1⟩
      case round =>
        clear HO1 HD HNO hB1 hdl
        obtain ⟨p, hp, rfl, HO, HD, HNO, hb⟩ := hrel
        have hzi := hb.size
        by_cases hpl : p < q
        · have hpl' : p < l.length := by omega
          obtain ⟨bx, offx, hA, hbS', hok, hc⟩ := RdEvs.at_ R1 hpl'
          injection hA with hA
          injection hA with hA1 hA2
          subst hA1 hA2
          rcases hev : evAt l p with ⟨k, a, ot, ce, wt, lb⟩
          rw [hev] at hok hc
          have e0 := (hb.cell (p := ⟨b, off + p * 6, none⟩) hbw).trans (hc 0 _ rfl)
          have e1 := (hb.cell (p := ⟨b, off + p * 6 + 1, none⟩) hbw).trans (hc 1 _ rfl); have e2 := (hb.cell (p := ⟨b, off + p * 6 + 2, none⟩) hbw).trans (hc 2 _ rfl); have e3 := (hb.cell (p := ⟨b, off + p * 6 + 3, none⟩) hbw).trans (hc 3 _ rfl); have e4 := (hb.cell (p := ⟨b, off + p * 6 + 4, none⟩) hbw).trans (hc 4 _ rfl); have e5 := (hb.cell (p := ⟨b, off + p * 6 + 5, none⟩) hbw).trans (hc 5 _ rfl)
          have HEa := Lib.hid hev
          have hbi : b < wr.heap.size := by omega
          have hbel : Below wr.heap.size wr (wr.alloc (.cells #[.int .i64 k, .int .i64 a, .int .i64 ot, .int .i64 ce, .bool wt, .int .i64 lb] 61)) := (Below.refl _ _).alloc (Nat.le_refl _) _
          have HO1 := Lib.hid (HO.out.keep Flat.keeps hbel)
          have HDa := Lib.hid (Blk.made wr [.int .i64 k, .int .i64 a, .int .i64 ot, .int .i64 ce, .bool wt, .int .i64 lb] 61 (base := 0) (Nat.zero_le _))
          have HDb := Lib.hid (HD.out.below hbel)
          have hB2 : Below w1.heap.size w1 (wr.alloc (.cells #[.int .i64 k, .int .i64 a, .int .i64 ot, .int .i64 ce, .bool wt, .int .i64 lb] 61)) := hb.trans (hbel.mono hzi)
          have p0 : (0 : Int) ≤ (p : Int) := by omega
          have p1 : (p : Int) < (q : Int) := by omega
          have p2 : (p : Int) < (l.length : Int) := by omega
          have hll2 : q * q ≤ 1048576 * 1048576 := Nat.mul_le_mul (by omega) (by omega)
          have hlr := racesH_len l q
          have hlp := rowR_len l q p
          have HLL := Lib.hid (show (racesH l q ++ rowR l q p).length ≤ 1099512676352 by rw [List.length_append]; omega)
          obtain ⟨da, hda⟩ : ∃ da, da = wr.heap.size := ⟨_, rfl⟩
          rw [← hda] at HDa
          go_upto_region 9 with (fail)
          rw [← hda]
          clear hda hok hc hev e0 e1 e2 e3 e4 e5 HO HD hbel hb hbi hll2 hlr hlp
          generalize (wr.alloc (.cells #[.int .i64 k, .int .i64 a, .int .i64 ot, .int .i64 ce, .bool wt, .int .i64 lb] 61)) = V at *
          have x0 := HDa.out.cell 0 _ rfl; have x1 := HDa.out.cell 1 _ rfl; have x2 := HDa.out.cell 2 _ rfl; have x3 := HDa.out.cell 3 _ rfl; have x4 := HDa.out.cell 4 _ rfl; have x5 := HDa.out.cell 5 _ rfl
          have y0 := HDb.out.cell 0 _ rfl; have y1 := HDb.out.cell 1 _ rfl; have y2 := HDb.out.cell 2 _ rfl; have y3 := HDb.out.cell 3 _ rfl; have y4 := HDb.out.cell 4 _ rfl; have y5 := HDb.out.cell 5 _ rfl
          have hzV := hB2.size
          have hgq : gs[q]? = some (gs[q]'(by rw [HGL.out]; omega)) := List.getElem?_eq_getElem _
          generalize gs[q]'(by rw [HGL.out]; omega) = bq at hgq
          have z1 := HM.out.at_ hgq
          have z2 := HM.out.at2 hgq hpl'
          have hg1 : g < w1.heap.size := World.block_lt_of_cell? w1 _ z1
          have hg2 : bq < w1.heap.size := World.block_lt_of_cell? w1 _ z2
          have z3 := (hB2.cell (p := ⟨g, q, none⟩) hg1).trans z1
          have z4 := (hB2.cell (p := ⟨bq, p, none⟩) hg2).trans z2
          clear hgq z1 z2
          go_cut [73] (fun x wx => x = .bool (raceP ⟨k, a, ot, ce, wt, lb⟩ ⟨k', a', ot', ce', wt', lb'⟩ && !hr l q p) ∧ wx = V)
          case first =>
            by_cases h1 : k = 1
            · by_cases h2 : k' = 1
              · cases h5 : kn a
                · have HX := Lib.hid (show (raceP ⟨k, a, ot, ce, wt, lb⟩ ⟨k', a', ot', ce', wt', lb'⟩ && !hr l q p) = false by simp [raceP, h1, h2, h5])
                  have gh1 : (k == 1) = true := (by simp [h1])
                  have gh2 : (k' == 1) = true := (by simp [h2])
                  all_goals (
                    try clear h1
                    try clear h2
                    try clear h3
                    try clear hw
                    go_wp2_with (first | (go_at_call_of 29 (Value.int .i64 a); refine (scount_any a _).mono ?_; rintro e w' ⟨rfl, rfl⟩) | (go_at_call_of 29 (Value.int .i64 a'); refine (scount_any a' _).mono ?_; rintro e w' ⟨rfl, rfl⟩))
                    go_meet
                    exact ⟨(by first | (rw [HX.out]; done) | (rw [HX.out]; simp [*]; done) | (simp [HX.out, *]; done)), rfl⟩)
                · cases h6 : kn a'
                  · have HX := Lib.hid (show (raceP ⟨k, a, ot, ce, wt, lb⟩ ⟨k', a', ot', ce', wt', lb'⟩ && !hr l q p) = false by simp [raceP, h1, h2, h5, h6])
                    have gh1 : (k == 1) = true := (by simp [h1])
                    have gh2 : (k' == 1) = true := (by simp [h2])
                    all_goals (
                      try clear h1
                      try clear h2
                      try clear h3
                      try clear hw
                      go_wp2_with (first | (go_at_call_of 29 (Value.int .i64 a); refine (scount_any a _).mono ?_; rintro e w' ⟨rfl, rfl⟩) | (go_at_call_of 29 (Value.int .i64 a'); refine (scount_any a' _).mono ?_; rintro e w' ⟨rfl, rfl⟩))
                      go_meet
                      exact ⟨(by first | (rw [HX.out]; done) | (rw [HX.out]; simp [*]; done) | (simp [HX.out, *]; done)), rfl⟩)
                  · by_cases h3 : ce = ce'
                    · cases hw : (wt || wt')
                      · have HX := Lib.hid (show (raceP ⟨k, a, ot, ce, wt, lb⟩ ⟨k', a', ot', ce', wt', lb'⟩ && !hr l q p) = false by simp [raceP, h1, h2, h5, h6, h3, hw])
                        have gh1 : (k == 1) = true := (by simp [h1])
                        have gh2 : (k' == 1) = true := (by simp [h2])
                        have gh3 : (ce == ce') = true := (by simp [h3])
                        cases wt <;> cases wt' <;> simp at hw
                        all_goals (
                          try clear h1
                          try clear h2
                          try clear h3
                          try clear hw
                          go_wp2_with (first | (go_at_call_of 29 (Value.int .i64 a); refine (scount_any a _).mono ?_; rintro e w' ⟨rfl, rfl⟩) | (go_at_call_of 29 (Value.int .i64 a'); refine (scount_any a' _).mono ?_; rintro e w' ⟨rfl, rfl⟩))
                          go_meet
                          exact ⟨(by first | (rw [HX.out]; done) | (rw [HX.out]; simp [*]; done) | (simp [HX.out, *]; done)), rfl⟩)
                      · cases hh : hr l q p
                        · have HX := Lib.hid (show (raceP ⟨k, a, ot, ce, wt, lb⟩ ⟨k', a', ot', ce', wt', lb'⟩ && !hr l q p) = true by simp [raceP, h1, h2, h5, h6, h3, hw, hh])
                          rw [hh] at z4
                          have gh1 : (k == 1) = true := (by simp [h1])
                          have gh2 : (k' == 1) = true := (by simp [h2])
                          have gh3 : (ce == ce') = true := (by simp [h3])
                          cases wt <;> cases wt' <;> simp at hw
                          all_goals (
                            try clear h1
                            try clear h2
                            try clear h3
                            try clear hw
                            go_wp2_with (first | (go_at_call_of 29 (Value.int .i64 a); refine (scount_any a _).mono ?_; rintro e w' ⟨rfl, rfl⟩) | (go_at_call_of 29 (Value.int .i64 a'); refine (scount_any a' _).mono ?_; rintro e w' ⟨rfl, rfl⟩))
                            go_meet
                            exact ⟨(by first | (rw [HX.out]; done) | (rw [HX.out]; simp [*]; done) | (simp [HX.out, *]; done)), rfl⟩)
                        · have HX := Lib.hid (show (raceP ⟨k, a, ot, ce, wt, lb⟩ ⟨k', a', ot', ce', wt', lb'⟩ && !hr l q p) = false by simp [raceP, h1, h2, h5, h6, h3, hw, hh])
                          rw [hh] at z4
                          have gh1 : (k == 1) = true := (by simp [h1])
                          have gh2 : (k' == 1) = true := (by simp [h2])
                          have gh3 : (ce == ce') = true := (by simp [h3])
                          cases wt <;> cases wt' <;> simp at hw
                          all_goals (
                            try clear h1
                            try clear h2
                            try clear h3
                            try clear hw
                            go_wp2_with (first | (go_at_call_of 29 (Value.int .i64 a); refine (scount_any a _).mono ?_; rintro e w' ⟨rfl, rfl⟩) | (go_at_call_of 29 (Value.int .i64 a'); refine (scount_any a' _).mono ?_; rintro e w' ⟨rfl, rfl⟩))
                            go_meet
                            exact ⟨(by first | (rw [HX.out]; done) | (rw [HX.out]; simp [*]; done) | (simp [HX.out, *]; done)), rfl⟩)
                    · have HX := Lib.hid (show (raceP ⟨k, a, ot, ce, wt, lb⟩ ⟨k', a', ot', ce', wt', lb'⟩ && !hr l q p) = false by simp [raceP, h1, h2, h5, h6, h3])
                      have gh1 : (k == 1) = true := (by simp [h1])
                      have gh2 : (k' == 1) = true := (by simp [h2])
                      have gh3 : (ce == ce') = false := (by simp [h3])
                      all_goals (
                        try clear h1
                        try clear h2
                        try clear h3
                        try clear hw
                        go_wp2_with (first | (go_at_call_of 29 (Value.int .i64 a); refine (scount_any a _).mono ?_; rintro e w' ⟨rfl, rfl⟩) | (go_at_call_of 29 (Value.int .i64 a'); refine (scount_any a' _).mono ?_; rintro e w' ⟨rfl, rfl⟩))
                        go_meet
                        exact ⟨(by first | (rw [HX.out]; done) | (rw [HX.out]; simp [*]; done) | (simp [HX.out, *]; done)), rfl⟩)
              · have HX := Lib.hid (show (raceP ⟨k, a, ot, ce, wt, lb⟩ ⟨k', a', ot', ce', wt', lb'⟩ && !hr l q p) = false by simp [raceP, h1, h2])
                have gh1 : (k == 1) = true := (by simp [h1])
                have gh2 : (k' == 1) = false := (by simp [h2])
                all_goals (
                  try clear h1
                  try clear h2
                  try clear h3
                  try clear hw
                  go_wp2_with (first | (go_at_call_of 29 (Value.int .i64 a); refine (scount_any a _).mono ?_; rintro e w' ⟨rfl, rfl⟩) | (go_at_call_of 29 (Value.int .i64 a'); refine (scount_any a' _).mono ?_; rintro e w' ⟨rfl, rfl⟩))
                  go_meet
                  exact ⟨(by first | (rw [HX.out]; done) | (rw [HX.out]; simp [*]; done) | (simp [HX.out, *]; done)), rfl⟩)
            · have HX := Lib.hid (show (raceP ⟨k, a, ot, ce, wt, lb⟩ ⟨k', a', ot', ce', wt', lb'⟩ && !hr l q p) = false by simp [raceP, h1])
              have gh1 : (k == 1) = false := (by simp [h1])
              all_goals (
                try clear h1
                try clear h2
                try clear h3
                try clear hw
                go_wp2_with (first | (go_at_call_of 29 (Value.int .i64 a); refine (scount_any a _).mono ?_; rintro e w' ⟨rfl, rfl⟩) | (go_at_call_of 29 (Value.int .i64 a'); refine (scount_any a' _).mono ?_; rintro e w' ⟨rfl, rfl⟩))
                go_meet
                exact ⟨(by first | (rw [HX.out]; done) | (rw [HX.out]; simp [*]; done) | (simp [HX.out, *]; done)), rfl⟩)
          case rest =>
            obtain ⟨rfl, hwc⟩ := hcut
            subst hwc
            clear z3 z4 x0 x1 x2 x3 x4 x5 y0 y1 y2 y3 y4 y5 HDa
            cases hrp : (raceP ⟨k, a, ot, ce, wt, lb⟩ ⟨k', a', ot', ce', wt', lb'⟩ && !hr l q p)
            · have HN := Lib.hid (show rowR l q (p + 1) = rowR l q p from rowR_no (by unfold raceH; rw [HEa.out, HEb.out, hrp]))
              clear hrp
              go_wp2_with fail
              go_roundw
              case rel => exact ⟨p + 1, by omega, by go_num, Lib.hid (by rw [HN.out]; exact HO1.out), HDb, HNO, hB2⟩
              case measure => simp [intOf]; omega
            · have HN := Lib.hid (show racesH l q ++ rowR l q (p + 1) = (racesH l q ++ rowR l q p) ++ [((p : Int), (q : Int))] by
                rw [rowR_yes (by unfold raceH; rw [HEa.out, HEb.out, hrp]), List.append_assoc])
              clear hrp
              go_wp2_with (at_builtin; refine wpList_append_one rfl _ _ 31 rfl i0 _ Try.underlying31 hi hz0 hz1 hz2 rfl (by decide) Flat.keeps HO1.out (x := ((p : Int), (q : Int))) (cs := [Value.int .i64 (p : Int), Value.int .i64 (q : Int)]) (Tx := Nowhere) ?d0 rfl rfl rfl (Sub.nowhere _) (Sub.nowhere _) not_nowhere ?d1 ?d2 ?d3 ?d4 ?_)
              case d0 => exact ⟨rfl, by unfold okPr inI; dsimp only; omega⟩
              case d1 => simp [Value.oneCell']
              case d2 => have h9 := HLL.out; rw [List.length_append] at h9; unfold maxLen; omega
              case d3 => have h9 := HLL.out; rw [List.length_append] at h9; omega
              try (case d4 => exact hzV)
              intro v2 w2 ho2 hg2 hn2
              have HD3 := Lib.hid (HDb.out.but (But.of_grown hg2) (fun e => HNO.out _ e rfl))
              have HB3 := Lib.hid (hB2.grown hg2 hzV (fun g hg => (HO1.out.lt g hg).1))
              have HN3 := Lib.hid (show ∀ g, v2.ownBlock = some g → g ≠ d from fun g hg => by
                rcases hn2 with h | h <;> rw [h] at hg
                · exact HNO.out g hg
                · have := HDb.out.lt; simp only [Option.some.injEq] at hg; omega)
              have HO3 := Lib.hid ho2
              clear ho2 hg2 hn2 HO1 HDb HNO
              go_wp2_with fail
              go_roundw
              case rel => exact ⟨p + 1, by omega, by go_num, Lib.hid (by rw [HN.out, List.append_assoc]; exact HO3.out), HD3, HN3, HB3.out⟩
              case measure => simp [intOf]; omega
        · have hpe : p = q := by omega
          subst hpe
          have HO2 := Lib.hid (show OwnP 33 wr w1.heap.size Nowhere (racesH l (p + 1)) u4 by rw [racesH_succ]; exact HO.out)
          clear HO HD HNO
          go_wp2_with fail
          go_roundw
          case rel => exact ⟨p + 1, by omega, by go_num, HO2, hb⟩
          case measure => simp [intOf]; omega
    · have hqe : q = l.length := by omega
      subst hqe
      have hll2 : l.length * l.length ≤ 1048576 * 1048576 := Nat.mul_le_mul (by omega) (by omega)
      have hlr := racesH_len l l.length
      have HR := Lib.hid (HO.out.toRd (bytes := 16) (S' := Plus Nowhere w.heap.size wr.heap.size) Flat.keeps (by omega) (Sub.nowhere _) (fun b h1 h2 => .inr ⟨by have := B1.out.size; omega, h2⟩))
      have HBF := Lib.hid (B1.out.trans (hb.mono B1.out.size))
      clear HO hll2 hlr
      go_wp2
      go_ret
      exact ⟨_, rfl, HR.out, HBF.out⟩
end Go.Proofs.Ytikjegfjgfhiaaa
