/- The walks of slices.Max, slices.Index (the first), order.Height, the reference's CHeight. -/
import Derived.Test.YthbbecmffndgdabDoorOl1
import Derived.Test.YthbbecmffndgdabDoorOl2
import Derived.BigQuiet
namespace Go.Proofs.YthbbecmffndgdabDoor
open Go.RowKit
set_option linter.unusedVariables false
set_option maxHeartbeats 400000 in
theorem maxI (l : List Int) (h0 : 0 < l.length) (w : World) (S : Blocks) (v : Value) (r : RdI w S l v) :
    Calls Tryd.prog 39 #[v] w fun e w' => (∃ M, e = .returned (.int .i64 M) ∧ M ∈ l ∧ ∀ x ∈ l, x ≤ M) ∧ w = w' := by
  obtain ⟨A, cap, rfl, hl, hcm, hby⟩ := r.form
  unfold maxLen at hcm
  have R := Lib.hid r
  obtain ⟨b, off, rfl, _, hok, hc⟩ := RdI.at1 r h0
  have hge : ¬ (l.length : Int) < 1 := by omega
  obtain ⟨x0, hx0⟩ : ∃ x, x = l[0] := ⟨_, rfl⟩
  rw [← hx0] at hc
  have HS0 := Lib.hid (show x0 ∈ l ∧ ∀ i (h : i < l.length), i < 1 → l[i] ≤ x0 from ⟨by rw [hx0]; exact List.getElem_mem _, fun i h hi => by
    have h0 : i = 0 := by omega
    subst h0
    rw [hx0]
    exact Int.le_refl _⟩)
  rw [Nat.add_zero] at hc
  clear hx0 hok r
  go_enter Tryd.func39, Tryd.ntmps39
  go_wp2
  clear hc
  go_loopw [3, 4] (fun s t wr => ∃ (q : Nat) (M : Int), q ≤ l.length ∧ 1 ≤ q ∧ t = .int .i64 q ∧ s = .int .i64 M ∧ Hid (M ∈ l ∧ ∀ i (h : i < l.length), i < q → l[i] ≤ M) ∧ w = wr) (fun _ t _ => l.length - (intOf t).toNat)
  case atStart => exact ⟨1, x0, by omega, by omega, rfl, rfl, HS0, rfl⟩
  case round =>
    obtain ⟨q, M, hq, hq1, rfl, rfl, HM, rfl⟩ := hrel
    by_cases hlt : q < l.length
    · obtain ⟨b', off', hbo, _, hok, hc⟩ := RdI.at1 R.out hlt
      injection hbo with hbo
      injection hbo with hbo1 hbo2
      subst hbo1 hbo2
      obtain ⟨x, hx⟩ : ∃ x, x = l[q] := ⟨_, rfl⟩
      rw [← hx] at hc
      have HS := Lib.hid (show ∀ Y, Y = max M x → (Y ∈ l ∧ ∀ i (h : i < l.length), i < q + 1 → l[i] ≤ Y) from fun Y hY => by
        refine ⟨?_, fun i h hi => ?_⟩
        · rcases Int.le_total M x with h1 | h1
          · rw [hY, Int.max_eq_right h1, hx]; exact List.getElem_mem _
          · rw [hY, Int.max_eq_left h1]; exact HM.out.1
        · by_cases e : i = q
          · subst e; rw [hY, ← hx]; omega
          · have := HM.out.2 i h (by omega); omega)
      clear hx hok
      rcases Int.lt_trichotomy M x with h1 | h1 | h1
      · have hle : M ≤ x := by omega
        have hnl : ¬ x ≤ M := by omega
        have H2 := Lib.hid (HS.out x (by omega))
        clear HS h1
        go_wp2
        go_roundw
        case rel => exact ⟨q + 1, x, by omega, by omega, by go_num, rfl, H2, trivial⟩
        case measure => simp [intOf]; omega
      · subst h1
        have H2 := Lib.hid (HS.out M (by omega))
        clear HS
        go_wp2
        go_roundw
        case rel => exact ⟨q + 1, M, by omega, by omega, by go_num, rfl, H2, trivial⟩
        case measure => simp [intOf]; omega
      · have hle : x ≤ M := by omega
        have hnl : ¬ M ≤ x := by omega
        have H2 := Lib.hid (HS.out M (by omega))
        clear HS h1
        go_wp2
        go_roundw
        case rel => exact ⟨q + 1, M, by omega, by omega, by go_num, rfl, H2, trivial⟩
        case measure => simp [intOf]; omega
    · have HZ := Lib.hid (show M ∈ l ∧ ∀ x ∈ l, x ≤ M from ⟨HM.out.1, fun x hx => by
        obtain ⟨i, hi, rfl⟩ := List.mem_iff_getElem.1 hx
        exact HM.out.2 i hi (by omega)⟩)
      go_wp2
      go_ret
      exact ⟨⟨M, rfl, HZ.out⟩, rfl⟩
set_option maxHeartbeats 400000 in
theorem index_first (l : List Int) (x : Int) (hx : x ∈ l) (w : World) (S : Blocks) (v : Value) (r : RdI w S l v) :
    Calls Tryd.prog 40 #[v, .int .i64 x] w fun e w' => (∃ k : Nat, e = .returned (.int .i64 k) ∧ l[k]? = some x ∧ ∀ j, j < k → l[j]? ≠ some x) ∧ w = w' := by
  obtain ⟨A, cap, rfl, hl, hcm, hby⟩ := r.form
  unfold maxLen at hcm
  go_enter Tryd.func40, Tryd.ntmps40
  go_wp2
  go_loop [8] (fun t => ∃ q : Nat, q ≤ l.length ∧ t = .int .i64 q ∧ Hid (∀ j, j < q → l[j]? ≠ some x)) (fun t => l.length - (intOf t).toNat)
  case atStart => exact ⟨0, by omega, rfl, Lib.hid (fun j h => absurd h (by omega))⟩
  case round =>
    obtain ⟨q, hq, rfl, HQ⟩ := hrel
    by_cases hlt : q < l.length
    · obtain ⟨b, off, rfl, _, hok, hc⟩ := RdI.at1 r hlt
      have HG := Lib.hid (List.getElem?_eq_getElem hlt)
      cases he : (x == l[q])
      · have HQ2 := Lib.hid (show ∀ j, j < q + 1 → l[j]? ≠ some x from fun j hj => by
          by_cases e : j = q
          · subst e
            rw [HG.out]
            intro h
            injection h with h
            rw [h] at he
            simp at he
          · exact HQ.out j (by omega))
        clear r
        go_wp2
        go_round
        case rel => exact ⟨q + 1, by omega, by go_num, HQ2⟩
        case measure => simp [intOf]; omega
      · have HZ := Lib.hid (show l[q]? = some x by rw [HG.out]; rw [show x = l[q] by simpa using he])
        clear r
        go_wp2
        go_ret
        exact ⟨⟨q, rfl, HZ.out, HQ.out⟩, rfl⟩
    · obtain ⟨i, hi, hix⟩ := List.mem_iff_getElem.1 hx
      exact absurd (by rw [List.getElem?_eq_getElem hi, hix]) (HQ.out i (by omega))
/-- how many levels -/
def hgtW (N : Int) (ps : List (Int × Int)) : Nat := if wrongE N ps ≠ 0 then 0 else hgtE N.toNat (natsP ps) N.toNat
theorem max_row {n : Nat} {es : List (Nat × Nat)} {M : Int} (h1 : M ∈ natRow n (levE n es)) (h2 : ∀ x ∈ natRow n (levE n es), x ≤ M) : M + 1 = (hgtE n es n : Int) ∧ ∃ m, m < n ∧ M = (levE n es m : Int) := by
  obtain ⟨i, hi, rfl⟩ := List.mem_iff_getElem.1 h1
  rw [natRow_at] at h2 ⊢
  have hin : i < n := by rw [natRow_len] at hi; exact hi
  refine ⟨?_, i, hin, rfl⟩
  obtain ⟨m, hm, he⟩ := hgt_at (N := n) (es := es) (k := n) (by omega)
  have h3 := hgt_ge (N := n) (es := es) hin
  have h4 := h2 (levE n es m : Int) (List.mem_iff_getElem.2 ⟨m, by rw [natRow_len]; exact hm, natRow_at _⟩)
  omega
set_option maxHeartbeats 800000 in
set_option maxRecDepth 100000 in
theorem height_any (N : Int) (hNi : inI N) (ps : List (Int × Int)) (w : World) (S : Blocks) (ve : Value) (hS : Sub S (Upto w.heap.size)) (hT : Tab w) (r : RdP w S ps ve) :
    Calls Tryd.prog 18 #[.agg #[.int .i64 N, ve]] w fun e w' => e = .returned (.tuple #[.int .i64 (hgtW N ps : Int), .int .i64 (wrongE N ps)]) ∧ Below w.heap.size w w' := by
  obtain ⟨A, cap, rfl, hl, hcm, hby⟩ := r.form
  unfold maxLen at hcm
  have b0 := Blk.made w [.int .i64 N, .slice A ps.length cap] 24 (base := 0) (Nat.zero_le _)
  have bl : Below w.heap.size w (w.alloc (.cells #[.int .i64 N, .slice A ps.length cap] 24)) := (Below.refl _ _).alloc (Nat.le_refl _) _
  have hsz0 : w.heap.size ≤ ((w.alloc (.cells #[.int .i64 N, .slice A ps.length cap] 24))).heap.size := by rw [World.size_alloc]; omega
  have k0 := b0.cell 0 _ rfl
  have k1 := b0.cell 1 _ rfl
  have HB0 := Lib.hid b0
  have BL := Lib.hid bl
  have C1 := Lib.hid (levels_any N hNi ps (w.alloc (.cells #[.int .i64 N, .slice A ps.length cap] 24)) S _ (hS.trans (Sub.upto hsz0)) (hT.go bl) (r.go Flat.keeps bl hS (Sub.refl _)))
  clear b0 bl hT r hS
  go_enter Tryd.func18, Tryd.ntmps18
  go_upto_region 1 with (fail)
  generalize (w.alloc (.cells #[.int .i64 N, .slice A ps.length cap] 24)) = W0 at *
  go_wp2_with fail
  refine C1.out.mono ?_
  rintro e w1 ⟨x, rfl, hso, hsn, hb1⟩
  have BL1 := Lib.hid (BL.out.trans (hb1.mono BL.out.size))
  clear C1 HB0 BL hb1 k0 k1 hsz0
  by_cases hw : wrongE N ps = 0
  · obtain ⟨hn0, hn2, hgd, hrd⟩ := wrongE_zero hw
    obtain ⟨n, hnn⟩ : ∃ n : Nat, N = (n : Int) := ⟨N.toNat, by omega⟩
    subst hnn
    obtain ⟨g, rfl, hM⟩ := hso hw
    have HR := Lib.hid (show hgtW (n : Int) ps = hgtE n (natsP ps) n by unfold hgtW; rw [if_neg (by simp [hw]), Int.toNat_natCast])
    rw [Int.toNat_natCast] at hM ⊢
    have HW0 := Lib.hid hw
    obtain ⟨es, hes⟩ : ∃ es, es = natsP ps := ⟨_, rfl⟩
    rw [← hes] at hM HR
    rw [hw]
    have HM := Lib.hid hM
    clear hw hgd hrd hes hso hsn hM
    rcases Nat.eq_zero_or_pos n with h0 | h0
    · subst h0
      go_wp2_with fail
      go_ret2
      exact ⟨by rw [HW0.out, HR.out]; rfl, BL1.out⟩
    · have RR := Lib.hid (HM.out.rdN (S := Is g) rfl (by omega) (fun k _ => by have := levE_le n es k; omega))
      have HC := Lib.hid (maxI (natRow n (levE n es)) (by rw [natRow_len]; exact h0) w1 _ _ RR.out)
      have hne : ¬ (n : Int) = 0 := by omega
      have hnb : ((n : Int) == 0) = false := by simp; omega
      go_wp2_with fail
      refine HC.out.mono ?_
      rintro e w' ⟨⟨M, rfl, h1, h2⟩, rfl⟩
      obtain ⟨h3, m, hm, h4⟩ := max_row h1 h2
      have h5 := levE_le n es m
      have HE := Lib.hid h3
      have hM1 : 0 ≤ M ∧ M ≤ 200 := by omega
      clear h1 h2 h3 h4 h5 HC
      go_wp2_with fail
      go_ret2
      exact ⟨by rw [HW0.out, HR.out, ← HE.out]; rfl, BL1.out⟩
  · have HW := Lib.hid hw
    have HR := Lib.hid (show hgtW N ps = 0 by unfold hgtW; rw [if_pos hw])
    have hx9 := hsn hw
    subst hx9
    clear hso hsn
    go_wp2_with fail
    go_ret2
    exact ⟨by rw [HR.out]; rfl, BL1.out⟩
set_option maxHeartbeats 800000 in
set_option maxRecDepth 100000 in
theorem cheight_any (N : Int) (hNi : inI N) (ps : List (Int × Int)) (w : World) (S : Blocks) (ve : Value) (hS : Sub S (Upto w.heap.size)) (r : RdP w S ps ve) :
    Calls Tryd.prog 19 #[.agg #[.int .i64 N, ve]] w fun e w' => e = .returned (.tuple #[.int .i64 (hgtW N ps : Int), .int .i64 (wrongE N ps)]) ∧ Below w.heap.size w w' := by
  obtain ⟨A, cap, rfl, hl, hcm, hby⟩ := r.form
  unfold maxLen at hcm
  --(w.alloc (.cells #[.int .i64 N, .slice A ps.length cap] 24)) = (w.alloc (.cells #[.int .i64 N, .slice A ps.length cap] 24))
  have b0 := Blk.made w [.int .i64 N, .slice A ps.length cap] 24 (base := 0) (Nat.zero_le _)
  have bl : Below w.heap.size w (w.alloc (.cells #[.int .i64 N, .slice A ps.length cap] 24)) := (Below.refl _ _).alloc (Nat.le_refl _) _
  have hsz0 : w.heap.size ≤ ((w.alloc (.cells #[.int .i64 N, .slice A ps.length cap] 24))).heap.size := by rw [World.size_alloc]; omega
  have k0 := b0.cell 0 _ rfl
  have k1 := b0.cell 1 _ rfl
  have BL := Lib.hid bl
  have C1 := Lib.hid (clevels_any N hNi ps (w.alloc (.cells #[.int .i64 N, .slice A ps.length cap] 24)) S _ (hS.trans (Sub.upto hsz0)) (r.go Flat.keeps bl hS (Sub.refl _)))
  clear b0 bl r hS
  go_enter Tryd.func19, Tryd.ntmps19
  go_upto_region 1 with (fail)
  generalize (w.alloc (.cells #[.int .i64 N, .slice A ps.length cap] 24)) = W0 at *
  go_wp2_with fail
  refine C1.out.mono ?_
  rintro e w1 ⟨x, rfl, hso, hsn, hb1⟩
  have BL1 := Lib.hid (BL.out.trans (hb1.mono BL.out.size))
  clear C1 BL hb1 k0 k1 hsz0
  by_cases hw : wrongE N ps = 0
  · obtain ⟨hn0, hn2, hgd, hrd⟩ := wrongE_zero hw
    obtain ⟨n, hnn⟩ : ∃ n : Nat, N = (n : Int) := ⟨N.toNat, by omega⟩
    subst hnn
    obtain ⟨g, rfl, hM⟩ := hso hw
    have HR := Lib.hid (show hgtW (n : Int) ps = hgtE n (natsP ps) n by unfold hgtW; rw [if_neg (by simp [hw]), Int.toNat_natCast])
    rw [Int.toNat_natCast] at hM ⊢
    have HW0 := Lib.hid hw
    obtain ⟨es, hes⟩ : ∃ es, es = natsP ps := ⟨_, rfl⟩
    rw [← hes] at hM HR
    rw [hw]
    have HM := Lib.hid hM
    clear hw hgd hrd hes hso hsn hM
    obtain ⟨W1, hW1⟩ : ∃ W1 : World, W1 = w1 := ⟨_, rfl⟩
    subst hW1
    go_wp2
    go_loopw [6, 16] (fun s t wr => ∃ (q H : Nat), q ≤ n ∧ t = .int .i64 q ∧ s = .int .i64 (H : Int) ∧ Hid (H = hgtE n es q) ∧ H ≤ 201 ∧ W1 = wr) (fun _ t _ => n - (intOf t).toNat)
    case atStart => exact ⟨0, 0, by omega, rfl, rfl, Lib.hid rfl, by omega, rfl⟩
    case round =>
      obtain ⟨q, H, hq, rfl, rfl, HH, hH, rfl⟩ := hrel
      by_cases hlt : q < n
      · have m0 := HM.out.atN hlt
        have hlv := levE_le n es q
        have HS := Lib.hid (show ∀ Y, Y = max H (levE n es q + 1) → Y = hgtE n es (q + 1) from fun Y hY => by rw [hY, HH.out]; rfl)
        obtain ⟨v, hv⟩ : ∃ v, v = levE n es q := ⟨_, rfl⟩
        rw [← hv] at m0 hlv HS
        clear hv HH
        rcases Nat.lt_trichotomy H (v + 1) with h1 | h1 | h1
        · have hle : (H : Int) ≤ (v : Int) + 1 := by omega
          have hnl : ¬ (v : Int) + 1 ≤ (H : Int) := by omega
          have H2 := Lib.hid (HS.out (v + 1) (by omega))
          clear HS h1
          go_wp2
          go_roundw
          case rel => exact ⟨q + 1, v + 1, by omega, by go_num, by congr 1, H2, by omega, trivial⟩
          case measure => simp [intOf]; omega
        · subst h1
          have ey : (((v + 1 : Nat)) : Int) = (v : Int) + 1 := by omega
          have H2 := Lib.hid (HS.out (v + 1) (by omega))
          rw [ey]
          clear HS ey
          go_wp2
          go_roundw
          case rel => exact ⟨q + 1, v + 1, by omega, by go_num, by congr 1, H2, by omega, trivial⟩
          case measure => simp [intOf]; omega
        · have hle : (v : Int) + 1 ≤ (H : Int) := by omega
          have hnl : ¬ (H : Int) ≤ (v : Int) + 1 := by omega
          have H2 := Lib.hid (HS.out H (by omega))
          clear HS h1
          go_wp2
          go_roundw
          case rel => exact ⟨q + 1, H, by omega, by go_num, rfl, H2, by omega, trivial⟩
          case measure => simp [intOf]; omega
      · have hqn : q = n := by omega
        subst hqn
        go_wp2
        go_ret2
        exact ⟨by rw [HW0.out, HR.out, ← HH.out]; rfl, BL1.out⟩
  · have HW := Lib.hid hw
    have HR := Lib.hid (show hgtW N ps = 0 by unfold hgtW; rw [if_pos hw])
    have hx9 := hsn hw
    subst hx9
    clear hso hsn
    go_wp2
    go_loopw [6, 16] (fun s t wr => s = .int .i64 0 ∧ t = .int .i64 0 ∧ w1 = wr) (fun _ _ _ => 0)
    case atStart => exact ⟨rfl, rfl, rfl⟩
    case round =>
      obtain ⟨rfl, rfl, rfl⟩ := hrel
      go_wp2
      go_ret2
      exact ⟨by rw [HR.out]; rfl, BL1.out⟩
end Go.Proofs.YthbbecmffndgdabDoor
