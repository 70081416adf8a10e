/- The walk of Push. -/
import Derived.Test.YtbpooepbnnbipaaDq1
import Derived.Test.YtbpooepbnnbipaaBlk
import Derived.Test.YtbpooepbnnbipaaMadeR
namespace Go.Proofs.Ytbpooepbnnbipaa
open Go.RowKit
set_option linter.unusedVariables false
def DqRoom (base : Nat) (w : World) (d : Nat) (X : Blocks) (N : Nat) (l : List Int) : Prop :=
  ∃ (g m top : Nat) (r : List Int), Blk base w d [.slice (some ⟨g, 0, none⟩) m m, .int .i64 (top : Int), .int .i64 (l.length : Int)] ∧ Ring r m top l ∧ l.length < m ∧ m ≤ 2 * N + 1 ∧ g ≠ d ∧ X d ∧ X g ∧ (∀ b, X b → base ≤ b ∧ b < w.heap.size) ∧
    Blk base w g (r.map fun (x : Int) => Value.int .i64 x)
theorem take_pad {l : List Int} {n q : Nat} {x : Int} (h : l[q]? = some x) (hn : l.length ≤ n) : (l.take q ++ List.replicate (n - q) 0).set q x = l.take (q + 1) ++ List.replicate (n - (q + 1)) 0 := by
  have hq := (List.getElem?_eq_some_iff.1 h).1
  have hx := (List.getElem?_eq_some_iff.1 h).2
  have e : n - q = (n - (q + 1)) + 1 := by omega
  rw [e, List.replicate_succ, List.set_append, if_neg (by simp; omega), List.take_succ_eq_append_getElem hq]
  have : q - (l.take q).length = 0 := by simp; omega
  rw [this, List.set_cons_zero, hx]
  simp
set_option maxHeartbeats 1000000 in
set_option maxRecDepth 100000 in
theorem push_any {base : Nat} {w : World} {d N : Nat} {X : Blocks} {l : List Int} (h : DqAt base w d X N l) (hN : N ≤ 8796093022208) (hlN : l.length < N) (x : Int) :
    Calls Try.prog 37 #[.pointer (some ⟨d, 0, none⟩), .int .i64 x] w fun e w' => e = .returned (.tuple #[]) ∧ ∃ X', DqAt base w' d X' N (l ++ [x]) ∧ Sub X' (Plus X w.heap.size w'.heap.size) ∧ But X w w' := by
  obtain ⟨A, m, top, r, h1, h2, h3, h4, h5, h6⟩ := h
  have hle := h2.le
  have hdw := h1.lt
  have hc0 := h1.cell 0 _ rfl
  have hc2 := h1.cell 2 _ rfl
  have H1 := Lib.hid h1
  have H2 := Lib.hid h2
  have H5 := Lib.hid h5
  have H6 := Lib.hid h6
  have hdd := hdw
  clear h1 h2 h5 h6
  go_enter Try.func37, Try.ntmps37
  go_wp2
  go_quiet (fail)
  have K1 := Lib.hid (H1.out.drewN ‹Nat›)
  have K3 : But X w (w.drewN ‹Nat›) := (But.refl _ _).drewN _
  have K6 := Lib.hid (H6.out.but (T := Nowhere) ((But.refl _ _).drewN ‹Nat›) (fun _ _ h => h))
  have hWs : w.heap.size ≤ (w.drewN ‹Nat›).heap.size := Nat.le_refl _
  have hWs' : (w.drewN ‹Nat›).heap.size ≤ w.heap.size := Nat.le_refl _
  generalize w.drewN ‹Nat› = W at *
  clear hc0 hc2 H1 H6
  go_upto_if 15 with (fail)
  go_cut [4, 5] (fun _ _ wx => ∃ X', Hid (DqRoom base wx d X' N l) ∧ Sub X' (Plus X w.heap.size wx.heap.size) ∧ But X w wx)
  case first =>
    by_cases hm : l.length = m
    · have hd : ((l.length : Int) == (m : Int)) = true := by simp [hm]
      obtain ⟨i0, hi, hz0, hz1, hz2⟩ := info_parts infoI
      obtain ⟨n, hn⟩ : ∃ n : Nat, n = 2 * l.length + 1 := ⟨_, rfl⟩
      have hni : (n : Int) = 2 * (l.length : Int) + 1 := by omega
      have hmk : ∀ w, (Instr.makeSlice 39 (.int .i64 (2 * (l.length : Int) + 1)) (.int .i64 (2 * (l.length : Int) + 1))).run Try.prog w = .ok (.slice (some ⟨w.heap.size, 0, none⟩) n n) (w.alloc (.cells (Array.replicate n (.int .i64 0)) 3)) := fun w => by
        have := run_make1 (P := Try.prog) 39 3 i0 _ Try.underlying39 hi hz0 hz1 rfl n (by rw [hz2]; omega) (by omega) w
        rw [hni] at this
        exact this
      have HM := Lib.hid hm
      have HN := Lib.hid hn
      have c2 := K1.out.cell 2 _ rfl
      have b0 : (0 : Int) ≤ (l.length : Int) := by omega
      have b1 : (l.length : Int) ≤ 8796093022208 := by omega
      have hdW := K1.out.lt
      clear hm hn hni
      go_wp2_with fail
      have M1 := Lib.hid (Blk.madeN W n (.int .i64 0) 3 (base := W.heap.size) (Nat.le_refl _))
      have M2 : Below W.heap.size W (W.alloc (.cells (Array.replicate n (.int .i64 0)) 3)) := (Below.refl _ _).alloc (Nat.le_refl _) _
      generalize W.alloc (.cells (Array.replicate n (.int .i64 0)) 3) = W1 at *
      obtain ⟨gn, hgn⟩ : ∃ gn, gn = W.heap.size := ⟨_, rfl⟩
      have hgn1 := Nat.le_of_eq hgn
      have hgn2 := Nat.le_of_eq hgn.symm
      rw [← hgn] at M1 ⊢
      clear hgn c2
      go_loopw [27] (fun t wr => ∃ q : Nat, q ≤ l.length ∧ t = .int .i64 (q : Int) ∧ Hid (Blk W.heap.size wr gn ((l.take q ++ List.replicate (n - q) 0).map fun (x : Int) => Value.int .i64 x)) ∧ Below W.heap.size W wr) (fun t _ => l.length - (intOf t).toNat)
      case atStart => exact ⟨0, by omega, rfl, Lib.hid (by simpa using M1.out.rebase hgn2), M2⟩
      case round =>
        obtain ⟨q, hq, rfl, hM, hb⟩ := hrel
        clear M1 M2
        by_cases hlt : q < l.length
        · obtain ⟨g, e, hm, hne, hxg, hg⟩ : ∃ g, A = some ⟨g, 0, none⟩ ∧ 0 < m ∧ g ≠ d ∧ X g ∧ Blk base W g (r.map fun (x : Int) => Value.int .i64 x) := by
            rcases K6.out with ⟨_, e⟩ | h6
            · have := HM.out; omega
            · exact h6
          subst e
          obtain ⟨y, hy⟩ : ∃ y, l[q]? = some y := ⟨_, List.getElem?_eq_getElem hlt⟩
          have G1 := K1.out.but (T := Nowhere) (But.of_below hb) (fun h => h)
          have G2 := hg.but (T := Nowhere) (But.of_below hb) (fun h => h)
          have c0 := G1.cell 0 _ rfl
          have c1 := G1.cell 1 _ rfl
          have c2 := G1.cell 2 _ rfl
          have cx := G2.mapAt (H2.out.get q y hy)
          have ht := H2.out.top_lt hm
          have hmi : (m : Int) = (l.length : Int) := by have := HM.out; omega
          have HP := Lib.hid (take_pad (n := n) hy (by have := HN.out; omega))
          have hpl : q < (l.take q ++ List.replicate (n - q) 0).length := by have := HN.out; simp; omega
          have hcn := hM.out.mapAt (List.getElem?_eq_getElem hpl)
          generalize (l.take q ++ List.replicate (n - q) 0)[q] = z at hcn
          have hqn : (q : Int) < (n : Int) := by have := HN.out; omega
          have HS := hM.out.mapSet hpl y
          rw [HP.out] at HS
          have HS2 := Lib.hid HS
          have HB2 := Lib.hid (hb.setCell (p := ⟨gn, q, none⟩) hgn2 (.int .i64 y))
          have hfr := hM.out.fr q
          have hWd := K1.out.lt
          have hWz := hb.size
          have hgd : gn ≠ d := by omega
          have b2 : (q : Int) < (l.length : Int) := by omega
          have b3 : (0 : Int) ≤ (q : Int) := by omega
          have b4 : (top : Int) < (l.length : Int) := by omega
          have b5 : (0 : Int) ≤ (top : Int) := by omega
          have hm0 : (0 : Int) < (l.length : Int) := by omega
          have hr : (top + q) % l.length < m := by have := HM.out; rw [this]; exact Nat.mod_lt _ hm
          have hr' : ((top : Int) + (q : Int)) % (l.length : Int) < (m : Int) := by rw [hmi]; exact Int.emod_lt_of_pos _ hm0
          have hr0 : 0 ≤ ((top : Int) + (q : Int)) % (l.length : Int) := Int.emod_nonneg _ (by omega)
          rw [← HM.out] at cx
          clear HS hmi G1 G2 hg hM hb hy HP
          go_wp2
          go_region
          have HS3 := Lib.hid HS2.out.drew
          have HB3 := HB2.out.drew
          generalize (wr.setCell ⟨gn, q, none⟩ (.int .i64 y)).drew = W2 at *
          clear HS2 HB2 hcn hfr c0 c1 c2 cx
          go_wp2
          go_roundw
          case rel => exact ⟨q + 1, by omega, by go_num, HS3, HB3⟩
          case measure => simp [intOf]; omega
        · have hql : q = l.length := by omega
          subst hql
          have G1 := K1.out.but (T := Nowhere) (But.of_below hb) (fun h => h)
          have hWd := K1.out.lt
          have hWz := hb.size
          have hgd : gn ≠ d := by omega
          have hdg : d ≠ gn := by omega
          have hglt := hM.out.lt
          have c0 := G1.cell 0 _ rfl
          have c1 := G1.cell 1 _ rfl
          have f0 := G1.fr 0
          have f1 := G1.fr 1
          have G2 := Lib.hid ((G1.set (i := 0) (by simp) (.slice (some ⟨gn, 0, none⟩) n n)).set (i := 1) (by simp) (.int .i64 0))
          have G3 := Lib.hid ((hM.out.other (p := ⟨d, 0, none⟩) hdg (.slice (some ⟨gn, 0, none⟩) n n)).other (p := ⟨d, 1, none⟩) hdg (.int .i64 0))
          have G4 := ((K3.trans (But.of_below (T := X) hb)).setCell (p := ⟨d, 0, none⟩) h4 (.slice (some ⟨gn, 0, none⟩) n n)).setCell (p := ⟨d, 1, none⟩) h4 (.int .i64 0)
          clear hM hb K3
          go_wp2
          go_meet
          have hz : ((wr.setCell ⟨d, 0, none⟩ (.slice (some ⟨gn, 0, none⟩) n n)).setCell ⟨d, 1, none⟩ (.int .i64 0)).heap.size = wr.heap.size := by rw [size_setCell, size_setCell]
          refine ⟨fun b => X b ∨ b = gn, Lib.hid ⟨gn, n, 0, l ++ List.replicate (m + 1) 0, G2.out, ?_, ?_, ?_, hgd, .inl h4, .inr rfl, ?_, ?_⟩, ?_, G4⟩
          · rw [HN.out, HM.out]; exact H2.out.grown HM.out
          · have := HN.out; omega
          · have := HN.out; omega
          · rintro b (hb | rfl)
            · exact ⟨(H5.out b hb).1, by rw [hz]; exact Nat.lt_of_lt_of_le (H5.out b hb).2 (by omega)⟩
            · have := K1.out.ge; exact ⟨by omega, by rw [hz]; exact hglt⟩
          · have := G3.out
            rw [List.take_length] at this
            have e : n - l.length = m + 1 := by have := HN.out; have := HM.out; omega
            rw [e] at this
            exact this.rebase (by have := K1.out.ge; omega)
          · rintro b (hb | rfl)
            · exact .inl hb
            · exact .inr ⟨by omega, by rw [hz]; exact hglt⟩
    · have hm2 : l.length < m := by omega
      have hd : ((l.length : Int) == (m : Int)) = false := by simp; omega
      have HM2 := Lib.hid hm2
      clear hm hm2
      go_wp2
      go_meet
      have hm2 := HM2.out
      rcases K6.out with ⟨_, e⟩ | ⟨g, rfl, hm, hne, hx, hg⟩
      · omega
      · exact ⟨X, Lib.hid ⟨g, m, top, r, K1.out, H2.out, hm2, h3, hne, h4, hx, fun b hb => ⟨(H5.out b hb).1, Nat.lt_of_lt_of_le (H5.out b hb).2 K3.size⟩, hg⟩, Sub.plus _ _ _, K3⟩
  case rest =>
    clear K1 K3 K6 H2 H5 hle h3 h4 hWs hWs'
    obtain ⟨X', hR, hsub, hb⟩ := hcut
    obtain ⟨g, m', top', r', h1, h2, hlt, h3, hne, hxd, hxg, h5, hg⟩ := hR.out
    have c0 := h1.cell 0 _ rfl
    have c1 := h1.cell 1 _ rfl
    have c2 := h1.cell 2 _ rfl
    have hf2 := h1.fr 2
    have hm0' : 0 < m' := by omega
    have hm0 : (0 : Int) < (m' : Int) := by omega
    have hr : (top' + l.length) % m' < m' := Nat.mod_lt _ hm0'
    have hr' : ((top' : Int) + (l.length : Int)) % (m' : Int) < (m' : Int) := Int.emod_lt_of_pos _ hm0
    have hr0 : 0 ≤ ((top' : Int) + (l.length : Int)) % (m' : Int) := Int.emod_nonneg _ (by omega)
    have ht := h2.top_lt hm0'
    have b0 : (m' : Int) ≤ 17592186044417 := by omega
    have b1 : (top' : Int) < (m' : Int) := by omega
    have b2 : (0 : Int) ≤ (top' : Int) := by omega
    have b3 : (l.length : Int) < (m' : Int) := by omega
    have b4 : (0 : Int) ≤ (l.length : Int) := by omega
    have hrl : (top' + l.length) % m' < r'.length := by rw [h2.len]; exact hr
    have hcn := hg.mapAt (List.getElem?_eq_getElem hrl)
    generalize r'[(top' + l.length) % m'] = z at hcn
    have hfg := hg.fr ((top' + l.length) % m')
    have S1 := Lib.hid ((h1.other (p := ⟨g, (top' + l.length) % m', none⟩) hne (.int .i64 x)).drew)
    have S2 := Lib.hid ((hg.mapSet hrl x).drew)
    have S3 := Lib.hid (h2.push hlt x)
    have hgX : X g ∨ w.heap.size ≤ g := (hsub g hxg).imp id (fun h => h.1)
    have hdX : X d ∨ w.heap.size ≤ d := (hsub d hxd).imp id (fun h => h.1)
    have S4 := (hb.setNew (p := ⟨g, (top' + l.length) % m', none⟩) hgX (.int .i64 x)).drew
    have hgs : ((wc.setCell ⟨g, (top' + l.length) % m', none⟩ (.int .i64 x)).drew).heap.size = wc.heap.size := size_setCell _ _ _
    have H5 := Lib.hid h5
    have HGS := Lib.hid hgs
    clear h1 h2 hg hR hgs h5
    go_upto_region 8 with (fail)
    go_region
    generalize (wc.setCell ⟨g, (top' + l.length) % m', none⟩ (.int .i64 x)).drew = W2 at *
    clear c0 c1 c2 hf2 hcn hfg hr hr' hr0 hrl hm0
    have d2 := S1.out.cell 2 _ rfl
    have f2 := S1.out.fr 2
    go_wp2
    go_end0
    refine ⟨rfl, X', ⟨_, m', top', _, ?_, S3.out, h3, hxd, fun b hb => ?_, .inr ⟨g, rfl, hm0', hne, hxg, S2.out.other (p := ⟨d, 2, none⟩) (fun e => hne e.symm) _⟩⟩, ?_, S4.setNew (p := ⟨d, 2, none⟩) hdX _⟩
    · have hl : ((l ++ [x]).length : Int) = (l.length : Int) + 1 := by simp
      rw [hl]
      exact S1.out.set (i := 2) (by simp) _
    · rw [size_setCell, HGS.out]; exact H5.out b hb
    · rw [size_setCell, HGS.out]; exact hsub
end Go.Proofs.Ytbpooepbnnbipaa
