/- The walk of Join. -/
import Derived.Test.YtmpononkbdfkmaaUf2
namespace Go.Proofs.Ytmpononkbdfkmaa
open Go.RowKit
set_option linter.unusedVariables false

/-- what the sets are, whatever the forest looks like -/
def SetsAt (base n : Nat) (w : World) (b gu gs : Nat) (s : Nat → Nat) : Prop := ∃ up sz rt h, Forest base n w b gu gs up sz ∧ Good n up sz rt h ∧ Link n rt s
theorem SetsAt.but {base n : Nat} {w w' : World} {b gu gs : Nat} {s : Nat → Nat} {T : Blocks} (f : SetsAt base n w b gu gs s) (h : But T w w') (tb : ¬ T b) (tu : ¬ T gu) (ts : ¬ T gs) : SetsAt base n w' b gu gs s := by
  obtain ⟨up, sz, rt, h', f, g, l⟩ := f
  exact ⟨up, sz, rt, h', f.but h tb tu ts, g, l⟩

set_option maxHeartbeats 1000000 in
theorem join_any2 {base n : Nat} {w : World} {b gu gs : Nat} {s : Nat → Nat} (f0 : SetsAt base n w b gu gs s) (i j : Nat) (hi : i < n) (hj : j < n) :
    Calls Try.prog 110 #[.pointer (some ⟨b, 0, none⟩), .int .i64 (i : Int), .int .i64 (j : Int)] w fun e w' => (∃ a : Int, e = .returned (.tuple #[.int .i64 a, .bool (!decide (s i = s j))])) ∧
      SetsAt base n w' b gu gs (if s i = s j then s else joinS s (s i) (s j)) ∧ But (Is2 gu gs) w w' := by
  obtain ⟨up, sz, rt, h, f0, g0, l0⟩ := f0
  have F0 := Lib.hid f0
  have G0 := Lib.hid g0
  have L0 := Lib.hid l0
  clear f0 g0 l0
  go_enter Try.func110, Try.ntmps110
  go_wp2_with fail
  refine (head_any F0.out G0.out i hi).mono ?_
  rintro e w1 ⟨rfl, up1, f1, g1, b1⟩
  have F1 := Lib.hid f1
  have G1 := Lib.hid g1
  clear f1 g1
  go_wp2_with fail
  refine (head_any F1.out G1.out j hj).mono ?_
  rintro e w2 ⟨rfl, up2, f2, g2, b2⟩
  have F := Lib.hid f2
  have G := Lib.hid g2
  have hbut : But (Is2 gu gs) w w2 := (b1.trans b2).sub (fun k hk => .inl hk)
  clear f2 g2 b1 b2 F1 G1 F0 G0
  have ha := G.out.rt_lt i hi
  have hb := G.out.rt_lt j hj
  have hn := F.out.n1
  by_cases he : rt i = rt j
  · have hs := Lib.hid ((L0.out i j hi hj).1 he)
    have HR := Lib.hid (show SetsAt base n w2 b gu gs s from ⟨up2, sz, rt, h, F.out, G.out, L0.out⟩)
    rw [he]
    go_wp2
    go_ret2
    exact ⟨⟨_, by first | rfl | (rw [hs.out]; simp; rfl)⟩, by first | exact HR.out | (rw [if_pos hs.out]; exact HR.out), hbut⟩
  · have hs := Lib.hid (fun e => he ((L0.out i j hi hj).2 e))
    have hne : ((rt i : Int) == (rt j : Int)) = false := by simp; omega
    have hc1 := F.out.c1
    have hlz := F.out.lz
    obtain ⟨x, hx⟩ : ∃ x, sz[rt i]? = some x := ⟨sz[rt i], List.getElem?_eq_getElem (by omega)⟩
    obtain ⟨y, hy⟩ : ∃ y, sz[rt j]? = some y := ⟨sz[rt j], List.getElem?_eq_getElem (by omega)⟩
    have hcx := F.out.szs _ x hx
    have hcy := F.out.szs _ y hy
    clear hx hy hlz
    go_wp2
    go_quiet (fail)
    go_upto_if 34 with (fail)
    go_cut [8, 9] (fun x8 x9 wx => ∃ p q : Nat, x8 = .int .i64 (p : Int) ∧ x9 = .int .i64 (q : Int) ∧ ((p = rt i ∧ q = rt j) ∨ (p = rt j ∧ q = rt i)) ∧ Hid (Forest base n wx b gu gs up2 sz) ∧ But (Is2 gu gs) w wx)
    case first =>
      rcases Nat.lt_or_ge x y with hxy | hxy
      · have hxy' : (x : Int) < (y : Int) := by omega
        go_wp2
        go_meet
        go_light
        exact ⟨rt j, rt i, rfl, rfl, .inr ⟨rfl, rfl⟩, Lib.hid (F.out.drewN _), hbut.drewN _⟩
      · have hxy' : ¬ x < y := by omega
        go_wp2
        go_meet
        go_light
        exact ⟨rt i, rt j, rfl, rfl, .inl ⟨rfl, rfl⟩, Lib.hid (F.out.drewN _), hbut.drewN _⟩
    case rest =>
      clear hc1 hcx hcy hbut F hne
      obtain ⟨p, q, rfl, rfl, hpq, F, hbut⟩ := hcut
      have HP := Lib.hid (show p < n ∧ q < n ∧ rt p = p ∧ rt q = q ∧ p ≠ q by
        have e1 := G.out.rt_self _ (G.out.rt_root i hi)
        have e2 := G.out.rt_self _ (G.out.rt_root j hj)
        rcases hpq with ⟨h1, h2⟩ | ⟨h1, h2⟩
        · rw [h1, h2]; exact ⟨ha, hb, e1, e2, he⟩
        · rw [h1, h2]; exact ⟨hb, ha, e2, e1, fun e => he e.symm⟩)
      have HPQ := Lib.hid hpq
      have hp := HP.out.1
      have hq := HP.out.2.1
      clear hpq he ha hb
      have hc0 := F.out.c0
      have hlz := F.out.lz
      have hlu := F.out.lu
      have hpz : p < sz.length := by omega
      have hqz : q < sz.length := by omega
      have hqu : q < up2.length := by omega
      clear hlz hlu
      obtain ⟨x1, hx⟩ : ∃ x, sz[p]? = some x := ⟨sz[p], List.getElem?_eq_getElem hpz⟩
      obtain ⟨y1, hy⟩ : ∃ y, sz[q]? = some y := ⟨sz[q], List.getElem?_eq_getElem hqz⟩
      obtain ⟨z1, hz⟩ : ∃ z, up2[q]? = some z := ⟨up2[q], List.getElem?_eq_getElem hqu⟩
      have hcz := F.out.ups _ z1 hz
      have hfu := F.out.fu q
      have HX := Lib.hid hx
      have HY := Lib.hid hy
      clear hx hy hz
      go_upto_region 7 with (fail)
      have hF : Forest base n (wc.setCell ⟨gu, q, none⟩ (.int .i64 (p : Int))) b gu gs (up2.set q p) sz := F.out.setU hq p
      have hb2 : But (Is2 gu gs) w (wc.setCell ⟨gu, q, none⟩ (.int .i64 (p : Int))) := hbut.setCell (p := ⟨gu, q, none⟩) (.inl rfl) _
      clear F hc0 hcz hfu hbut
      generalize wc.setCell ⟨gu, q, none⟩ (.int .i64 (p : Int)) = W at hF hb2 ⊢
      have F2 := Lib.hid hF
      clear hF
      have hc1 := F2.out.c1
      have hcx := F2.out.szs p x1 HX.out
      have hcy := F2.out.szs q y1 HY.out
      have hfs := F2.out.fs p
      have hxle : x1 ≤ 200 := by
        have h1 := G.out.cnt p hp
        rw [HP.out.2.2.1, HX.out] at h1
        injection h1 with h1
        have := cntL_le n rt p
        omega
      have hyle : y1 ≤ 200 := by
        have h1 := G.out.cnt q hq
        rw [HP.out.2.2.2.1, HY.out] at h1
        injection h1 with h1
        have := cntL_le n rt q
        omega
      go_region
      have hF : Forest base n (W.setCell ⟨gs, p, none⟩ (.int .i64 ((x1 + y1 : Nat) : Int))).drew b gu gs (up2.set q p) (sz.set p (x1 + y1)) := (F2.out.setS hp (x1 + y1)).drewN 1
      have hb3 : But (Is2 gu gs) w (W.setCell ⟨gs, p, none⟩ (.int .i64 ((x1 + y1 : Nat) : Int))).drew := (hb2.setCell (p := ⟨gs, p, none⟩) (.inr rfl) _).drew
      rw [Int.natCast_add] at hF hb3
      clear F2 hc1 hcx hcy hfs hxle hyle hb2
      generalize (W.setCell ⟨gs, p, none⟩ (.int .i64 ((x1 : Int) + (y1 : Int)))).drew = W2 at hF hb3 ⊢
      have HR := Lib.hid (show SetsAt base n W2 b gu gs (joinS s (s i) (s j)) by
        obtain ⟨hp, hq, e1, e2, hpq⟩ := HP.out
        have g2 := G.out.join hp hq e1 e2 hpq HX.out HY.out
        refine ⟨_, _, _, _, hF, g2, ?_⟩
        have hne : rt i ≠ rt j := fun e => hs.out ((L0.out i j hi hj).1 e)
        rcases HPQ.out with ⟨h1, h2⟩ | ⟨h1, h2⟩
        · rw [h1, h2]; exact L0.out.join hi hj hne
        · rw [h1, h2]; exact L0.out.join' hi hj hne)
      have hsn := hs.out
      clear hF HP HPQ HX HY G L0 hs
      go_wp2
      go_ret2
      exact ⟨⟨_, by first | rfl | (simp [hsn]; rfl)⟩, by first | exact HR.out | (rw [if_neg hsn]; exact HR.out), hb3⟩
end Go.Proofs.Ytmpononkbdfkmaa
