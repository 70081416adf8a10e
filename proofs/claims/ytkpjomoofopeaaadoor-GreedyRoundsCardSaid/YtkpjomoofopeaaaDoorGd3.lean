/- Rounds and FRounds at every argument; the reference's SameLists; the walk of the law GreedyRounds. -/
import Derived.Test.YtkpjomoofopeaaaDoorGd2
import Derived.Test.YtkpjomoofopeaaaDoorEqI
namespace Go.Proofs.YtkpjomoofopeaaaDoor
open Go.RowKit
set_option linter.unusedVariables false
/-- what the rounds answer -/
def gdE (N : Int) (ps : List (Int × Int)) (k : Int) : Int := if wrongE N ps = 0 then (if k < 1 ∨ 16 < k then 2 else 0) else wrongE N ps
def GdL (N : Int) (ps : List (Int × Int)) (k : Int) (L : List (List Nat)) : Prop := if gdE N ps k = 0 then RoundsIs N.toNat (natsP ps) k.toNat L else L = []
theorem GdL.uniq {N : Int} {ps : List (Int × Int)} {k : Int} {L M : List (List Nat)} (h : GdL N ps k L) (h' : GdL N ps k M) : L = M := by
  unfold GdL at h h'
  by_cases e : gdE N ps k = 0
  · rw [if_pos e] at h h'; exact h.uniq h'
  · rw [if_neg e] at h h'; rw [h, h']
set_option maxHeartbeats 1600000 in
set_option maxRecDepth 100000 in
theorem rounds_any (N : Int) (hNi : inI N) (ps : List (Int × Int)) (k : Int) (hk : inI k) (w : World) (S : Blocks) (ve : Value) (hS : Sub S (Upto w.heap.size)) (hT : Tab w) (r : RdP w S ps ve) :
    Calls Tryd.prog 7 #[.agg #[.int .i64 N, ve], .int .i64 k] w fun e w' => ∃ x L, e = .returned (.tuple #[x, .int .i64 (gdE N ps k)]) ∧ GdL N ps k L ∧ RdIs w' (Plus Nowhere w.heap.size w'.heap.size) (L.map castL) x ∧ Below w.heap.size w w' := by
  by_cases hall : wrongE N ps = 0 ∧ ¬ (k < 1 ∨ 16 < k)
  · obtain ⟨hw, hk2⟩ := hall
    obtain ⟨hn0, hn2, hgd, hrd⟩ := wrongE_zero hw
    obtain ⟨hps, hval⟩ := good_ps hgd
    have eN : ((N.toNat : Nat) : Int) = N := by omega
    have eK : ((k.toNat : Nat) : Int) = k := by omega
    have := rounds_ok N.toNat (by omega) k.toNat (by omega) (by omega) (natsP ps) hval hrd (by rw [eN, hps]; exact hw) w S ve hS hT (by rw [hps]; exact r)
    rw [eN, eK] at this
    refine this.mono ?_
    rintro e w' ⟨x, L, rfl, h1, h2, h3⟩
    have hg : gdE N ps k = 0 := by unfold gdE; rw [if_pos hw, if_neg hk2]
    exact ⟨x, L, by rw [hg], by unfold GdL; rw [if_pos hg]; exact h1, h2, h3⟩
  · have hgn : gdE N ps k ≠ 0 := by
      unfold gdE
      by_cases hw : wrongE N ps = 0
      · rw [if_pos hw, if_pos (Classical.byContradiction fun h => hall ⟨hw, h⟩)]; decide
      · rw [if_neg hw]; exact hw
    obtain ⟨A, cap, rfl, hl, hcm, hby⟩ := r.form
    have bl : Below w.heap.size w (w.alloc (.cells #[.int .i64 N, .slice A ps.length cap] 24)) := (Below.refl _ _).alloc (Nat.le_refl _) _
    have C1 := Lib.hid (wrong_any N hNi ps (w.alloc (.cells #[.int .i64 N, .slice A ps.length cap] 24)) S _ (hS.trans (Sub.upto bl.size)) (hT.go bl) (r.go Flat.keeps bl hS (Sub.refl _)))
    have BB := Blk.made w [.int .i64 N, .slice A ps.length cap] 24 (base := 0) (Nat.zero_le _)
    have k0 := BB.cell 0 _ rfl
    have k1 := BB.cell 1 _ rfl
    have BL := Lib.hid bl
    have HG := Lib.hid (show GdL N ps k [] by unfold GdL; rw [if_neg hgn])
    clear r hS hT bl BB hgn
    go_enter Tryd.func7, Tryd.ntmps7
    go_upto_region 1 with (fail)
    generalize (w.alloc (.cells #[.int .i64 N, .slice A ps.length cap] 24)) = W0 at *
    go_wp2_with fail
    refine C1.out.mono ?_
    rintro e w1 ⟨rfl, hb1⟩
    have BL1 := Lib.hid (BL.out.trans (hb1.mono BL.out.size))
    clear C1 BL hb1 k0 k1
    by_cases hw : wrongE N ps = 0
    · have hk2 : k < 1 ∨ 16 < k := Classical.byContradiction fun h => hall ⟨hw, h⟩
      have HE := Lib.hid (show gdE N ps k = 2 by unfold gdE; rw [if_pos hw, if_pos hk2])
      rw [hw]
      clear hw hall
      by_cases hk3 : k < 1
      · clear hk2
        go_wp2_with fail
        go_ret2
        rw [HE.out]
        exact ⟨.slice none 0 0, [], rfl, HG.out, RdL.nil (by unfold maxLen; omega), BL1.out⟩
      · have hk4 : 16 < k := by omega
        clear hk2
        go_wp2_with fail
        go_ret2
        rw [HE.out]
        exact ⟨.slice none 0 0, [], rfl, HG.out, RdL.nil (by unfold maxLen; omega), BL1.out⟩
    · have HE := Lib.hid (show gdE N ps k = wrongE N ps by unfold gdE; rw [if_neg hw])
      clear hall
      go_wp2_with fail
      go_ret2
      rw [HE.out]
      exact ⟨.slice none 0 0, [], rfl, HG.out, RdL.nil (by unfold maxLen; omega), BL1.out⟩
set_option maxHeartbeats 1600000 in
set_option maxRecDepth 100000 in
theorem frounds_any (N : Int) (hNi : inI N) (ps : List (Int × Int)) (k : Int) (hk : inI k) (w : World) (S : Blocks) (ve : Value) (hS : Sub S (Upto w.heap.size)) (r : RdP w S ps ve) :
    Calls Tryd.prog 8 #[.agg #[.int .i64 N, ve], .int .i64 k] w fun e w' => ∃ x L, e = .returned (.tuple #[x, .int .i64 (gdE N ps k)]) ∧ GdL N ps k L ∧ RdIs w' (Plus Nowhere w.heap.size w'.heap.size) (L.map castL) x ∧ Below w.heap.size w w' := by
  by_cases hall : wrongE N ps = 0 ∧ ¬ (k < 1 ∨ 16 < k)
  · obtain ⟨hw, hk2⟩ := hall
    obtain ⟨hn0, hn2, hgd, hrd⟩ := wrongE_zero hw
    obtain ⟨hps, hval⟩ := good_ps hgd
    have eN : ((N.toNat : Nat) : Int) = N := by omega
    have eK : ((k.toNat : Nat) : Int) = k := by omega
    have := frounds_ok N.toNat (by omega) k.toNat (by omega) (by omega) (natsP ps) hval hrd (by rw [eN, hps]; exact hw) w S ve hS (by rw [hps]; exact r)
    rw [eN, eK] at this
    refine this.mono ?_
    rintro e w' ⟨x, L, rfl, h1, h2, h3⟩
    have hg : gdE N ps k = 0 := by unfold gdE; rw [if_pos hw, if_neg hk2]
    exact ⟨x, L, by rw [hg], by unfold GdL; rw [if_pos hg]; exact h1, h2, h3⟩
  · have hgn : gdE N ps k ≠ 0 := by
      unfold gdE
      by_cases hw : wrongE N ps = 0
      · rw [if_pos hw, if_pos (Classical.byContradiction fun h => hall ⟨hw, h⟩)]; decide
      · rw [if_neg hw]; exact hw
    obtain ⟨A, cap, rfl, hl, hcm, hby⟩ := r.form
    --(w.alloc (.cells #[.int .i64 N, .slice A ps.length cap] 24)) = (w.alloc (.cells #[.int .i64 N, .slice A ps.length cap] 24))
    have bl : Below w.heap.size w (w.alloc (.cells #[.int .i64 N, .slice A ps.length cap] 24)) := (Below.refl _ _).alloc (Nat.le_refl _) _
    have C1 := Lib.hid (bwrong_any N hNi ps (w.alloc (.cells #[.int .i64 N, .slice A ps.length cap] 24)) S _ (hS.trans (Sub.upto bl.size)) (r.go Flat.keeps bl hS (Sub.refl _)))
    have BB := Blk.made w [.int .i64 N, .slice A ps.length cap] 24 (base := 0) (Nat.zero_le _)
    have k0 := BB.cell 0 _ rfl
    have k1 := BB.cell 1 _ rfl
    have BL := Lib.hid bl
    have HG := Lib.hid (show GdL N ps k [] by unfold GdL; rw [if_neg hgn])
    clear r hS bl BB hgn
    go_enter Tryd.func8, Tryd.ntmps8
    go_upto_region 1 with (fail)
    generalize (w.alloc (.cells #[.int .i64 N, .slice A ps.length cap] 24)) = W0 at *
    go_wp2_with fail
    refine C1.out.mono ?_
    rintro e w1 ⟨rfl, hb1⟩
    have BL1 := Lib.hid (BL.out.trans (hb1.mono BL.out.size))
    clear C1 BL hb1 k0 k1
    by_cases hw : wrongE N ps = 0
    · have hk2 : k < 1 ∨ 16 < k := Classical.byContradiction fun h => hall ⟨hw, h⟩
      have HE := Lib.hid (show gdE N ps k = 2 by unfold gdE; rw [if_pos hw, if_pos hk2])
      rw [hw]
      clear hw hall
      by_cases hk3 : k < 1
      · clear hk2
        go_wp2_with fail
        go_ret2
        rw [HE.out]
        exact ⟨.slice none 0 0, [], rfl, HG.out, RdL.nil (by unfold maxLen; omega), BL1.out⟩
      · have hk4 : 16 < k := by omega
        clear hk2
        go_wp2_with fail
        go_ret2
        rw [HE.out]
        exact ⟨.slice none 0 0, [], rfl, HG.out, RdL.nil (by unfold maxLen; omega), BL1.out⟩
    · have HE := Lib.hid (show gdE N ps k = wrongE N ps by unfold gdE; rw [if_neg hw])
      clear hall
      go_wp2_with fail
      go_ret2
      rw [HE.out]
      exact ⟨.slice none 0 0, [], rfl, HG.out, RdL.nil (by unfold maxLen; omega), BL1.out⟩
set_option maxHeartbeats 400000 in
theorem samel1 (l : List Int) (w : World) (S T : Blocks) (v u : Value) (hS : Sub S (Upto w.heap.size)) (hT : Sub T (Upto w.heap.size)) (r : RdI w S l v) (r' : RdI w T l u) :
    Calls Tryd.prog 30 #[v, u] w fun e w' => e = .returned (.bool true) ∧ Below w.heap.size w w' := by
  have C := Lib.hid (equalIs l w S T v u hS hT r r')
  clear r r'
  go_enter Tryd.func30, Tryd.ntmps30
  go_wp2_with fail
  refine C.out.mono ?_
  rintro e w' ⟨rfl, hb⟩
  go_wp2
  go_ret
  exact ⟨rfl, hb⟩
theorem RdIs.at1 {w : World} {S : Blocks} {l : List (List Int)} {A : Option Addr} {n cap : Nat} (h : RdIs w S l (.slice A n cap)) {q : Nat} (hq : q < l.length) :
    ∃ b off v, A = some ⟨b, off, none⟩ ∧ S b ∧ w.cell? ⟨b, off + q, none⟩ = some v ∧ RdI w S l[q] v := by
  obtain ⟨b, off, cs, hA, hb, hcs, hc, v, rfl, hv⟩ := RdL.at_ h hq
  have := hc 0 v rfl
  simp only [Nat.mul_one, Nat.add_zero] at this
  exact ⟨b, off, v, hA, hb, this, hv⟩
set_option maxHeartbeats 800000 in
theorem eqFuncL (l : List (List Int)) (hF : ∀ (args : Array Value) (w : World), (callFunc 30 args).run Tryd.prog w = .ok (.enter 30 args) w) (w : World) (S T : Blocks) (v u : Value) (hS : Sub S (Upto w.heap.size)) (hT : Sub T (Upto w.heap.size)) (r : RdIs w S l v) (r' : RdIs w T l u) :
    Calls Tryd.prog 29 #[v, u, .func (.func 30) #[] #[]] w fun e w' => e = .returned (.bool true) ∧ Below w.heap.size w w' := by
  obtain ⟨A, cap, rfl, hl, hcm, hby⟩ := r.form
  obtain ⟨A', cap', rfl, hl', hcm', _⟩ := r'.form
  unfold maxLen at hcm hcm'
  have R := Lib.hid r
  have R' := Lib.hid r'
  have HS := Lib.hid hS
  have HT := Lib.hid hT
  clear r r' hS hT
  go_enter Tryd.func29, Tryd.ntmps29
  go_wp2
  go_loopw [17] (fun t wr => ∃ q : Nat, q ≤ l.length ∧ t = .int .i64 q ∧ Below w.heap.size w wr) (fun t _ => l.length - (intOf t).toNat)
  case atStart => exact ⟨0, by omega, rfl, Below.refl _ _⟩
  case round =>
    obtain ⟨q, hq, rfl, hb⟩ := hrel
    by_cases hlt : q < l.length
    · obtain ⟨b, off, x, rfl, h1, h2, h3⟩ := RdIs.at1 R.out hlt
      obtain ⟨b', off', x', rfl, h1', h2', h3'⟩ := RdIs.at1 R'.out hlt
      have e0 := (hb.cell (p := ⟨b, off + q, none⟩) (HS.out _ h1)).trans h2
      have e1 := (hb.cell (p := ⟨b', off' + q, none⟩) (HT.out _ h1')).trans h2'
      have C := Lib.hid (samel1 l[q] wr S T _ _ (HS.out.trans (Sub.upto hb.size)) (HT.out.trans (Sub.upto hb.size)) (h3.keep Flat.keeps (Sub.refl _) (same_of_below hb HS.out)) (h3'.keep Flat.keeps (Sub.refl _) (same_of_below hb HT.out)))
      have HB := Lib.hid hb
      clear h1 h1' h2 h2' h3 h3' hb
      go_wp2_with fail
      refine C.out.mono ?_
      rintro e w2 ⟨rfl, hb2⟩
      have HB2 := Lib.hid (HB.out.trans (hb2.mono HB.out.size))
      clear hb2 C
      go_wp2_with fail
      go_roundw
      case rel => exact ⟨q + 1, by omega, by go_num, HB2.out⟩
      case measure => simp [intOf]; omega
    · go_wp2
      go_ret
      exact ⟨rfl, hb⟩
set_option maxHeartbeats 400000 in
theorem sameLists (l : List (List Int)) (w : World) (S T : Blocks) (v u : Value) (hS : Sub S (Upto w.heap.size)) (hT : Sub T (Upto w.heap.size)) (r : RdIs w S l v) (r' : RdIs w T l u) :
    Calls Tryd.prog 9 #[v, u] w fun e w' => e = .returned (.bool true) ∧ Below w.heap.size w w' := by
  have C := Lib.hid (eqFuncL l (fun args w => by kernel_rfl) w S T v u hS hT r r')
  clear r r'
  go_enter Tryd.func9, Tryd.ntmps9
  go_wp2_with fail
  refine C.out.mono ?_
  rintro e w' ⟨rfl, hb⟩
  go_wp2
  go_ret
  exact ⟨rfl, hb⟩
set_option maxHeartbeats 1600000 in
set_option maxRecDepth 100000 in
theorem greedyRounds_walk (N : Int) (hNi : inI N) (ps : List (Int × Int)) (k : Int) (hk : inI k) (w : World) (ve : Value) (hT : Tab w) (r : RdP w (Upto w.heap.size) ps ve) :
    Calls Tryd.prog 3 #[.agg #[.int .i64 N, ve], .int .i64 k] w fun e w' => e = .returned (.bool true) ∧ Below w.heap.size w w' := by
  obtain ⟨A, cap, rfl, hl, hcm, hby⟩ := r.form
  --(w.alloc (.cells #[.int .i64 N, .slice A ps.length cap] 24)) = (w.alloc (.cells #[.int .i64 N, .slice A ps.length cap] 24))
  have bel : Below w.heap.size w (w.alloc (.cells #[.int .i64 N, .slice A ps.length cap] 24)) := (Below.refl _ _).alloc (Nat.le_refl _) _
  have hsz : w.heap.size ≤ ((w.alloc (.cells #[.int .i64 N, .slice A ps.length cap] 24))).heap.size := by rw [World.size_alloc]; omega
  have BB := Blk.made w [.int .i64 N, .slice A ps.length cap] 24 (base := 0) (Nat.zero_le _)
  have k0 := BB.cell 0 _ rfl
  have k1 := BB.cell 1 _ rfl
  have HB := Lib.hid BB
  have BEL := Lib.hid bel
  have RA := Lib.hid (r.go Flat.keeps bel (Sub.refl _) (Sub.refl _))
  have C1 := Lib.hid (rounds_any N hNi ps k hk (w.alloc (.cells #[.int .i64 N, .slice A ps.length cap] 24)) (Upto w.heap.size) _ (Sub.upto hsz) (hT.go bel) (r.go Flat.keeps bel (Sub.refl _) (Sub.refl _)))
  clear bel r BB hT
  go_enter Tryd.func3, Tryd.ntmps3
  go_upto_region 1 with (fail)
  generalize (w.alloc (.cells #[.int .i64 N, .slice A ps.length cap] 24)) = W at *
  have hWw := BEL.out.size
  have hSu := Lib.hid (Sub.upto hWw)
  go_wp2_with fail
  refine C1.out.mono ?_
  rintro e w1 ⟨x1, L1, rfl, hL1, h1, hb1⟩
  have X1 := Lib.hid h1
  have K1 := Lib.hid hb1
  have B1 := Lib.hid (HB.out.below hb1)
  have C2 := Lib.hid (frounds_any N hNi ps k hk w1 (Upto w.heap.size) _ (hSu.out.trans (Sub.upto hb1.size)) (RA.out.go Flat.keeps hb1 hSu.out (Sub.refl _)))
  clear h1 hb1 k0 k1 C1
  have k0 := B1.out.cell 0 _ rfl
  have k1 := B1.out.cell 1 _ rfl
  go_wp2_with fail
  refine C2.out.mono ?_
  rintro e w2 ⟨x2, L2, rfl, hL2, h2, hb2⟩
  have hLL := hL1.uniq hL2
  subst hLL
  have C3 := Lib.hid (sameLists _ w2 _ _ x1 x2 (plus_upto.trans (Sub.upto hb2.size)) plus_upto (X1.out.go rdI1_keeps hb2 plus_upto (Sub.refl _)) h2)
  have K2 := Lib.hid (K1.out.trans (hb2.mono K1.out.size))
  clear h2 hb2 k0 k1 C2 X1 hL1 hL2
  go_wp2_with fail
  refine C3.out.mono ?_
  rintro e w3 ⟨rfl, hb3⟩
  have K3 := Lib.hid (K2.out.trans (hb3.mono K2.out.size))
  clear hb3 C3
  go_wp2
  go_ret
  exact ⟨rfl, BEL.out.trans (K3.out.mono hWw)⟩
end Go.Proofs.YtkpjomoofopeaaaDoor
