/- The reference's workers while they come. -/
import Derived.Test.YtbpooepbnnbipaaSw4
import Derived.Test.YtbpooepbnnbipaaSyA
namespace Go.Proofs.Ytbpooepbnnbipaa
open Go.RowKit
set_option linter.unusedVariables false
theorem QsAt.col {base k Q : Nat} {w : World} {col col' : Nat → Nat} {qs : List (List Pt)} (h : QsAt base w col k Q qs) (hc : ∀ b, b < w.heap.size → col' b = col b) : QsAt base w col' k Q qs := by
  obtain ⟨vs, h1, h2, h3⟩ := h
  exact ⟨vs, h1, h2, fun i v hi => (h3 i v hi).sub Flat.keeps (fun b hb2 => ⟨hb2.1, (hc b hb2.1).trans hb2.2⟩)⟩
structure V0 (base : Nat) (w : World) (y Q D k : Nat) (kk c lb : Int) (wb : Bool) (kv : Value) (q : Nat) (va : Value) : Prop where
  hd : Blk base w y [.int .i64 kk, .int .i64 c, .bool wb, .int .i64 lb, kv, va, .slice (some ⟨Q, 0, none⟩) k k, .map (some D), .slice none 0 0]
  rq : RowAt encV 1 base w Q (List.replicate k (.slice none 0 0))
  mp : OwnK Try.prog w 9 (.int .i64 0) D 0 (fun _ => .int .i64 0)
  oa : OwnL (Flat encAt okAny) 1 9 w base Nowhere (List.replicate q none) va
  lQ : Q < y
  lD : D < y
  ne : Q ≠ D
  bD : base ≤ D
  la : ∀ b, va.ownBlock = some b → y < b
section
variable {base : Nat} {w w' : World} {y Q D k : Nat} {kk c lb : Int} {wb : Bool} {kv : Value} {q : Nat} {va : Value}
theorem V0.place (h : V0 base w y Q D k kk c lb wb kv q va) {w5 : World} {v5 : Value} (hg : w.grownBy w5 va.ownBlock) (ho : OwnL (Flat encAt okAny) 1 9 w5 base Nowhere (List.replicate (q + 1) none) v5) (hd : v5.ownBlock = va.ownBlock ∨ ∃ b, v5.ownBlock = some b ∧ w.heap.size ≤ b) : V0 base (w5.setCell ⟨y, 5, none⟩ v5) y Q D k kk c lb wb kv (q + 1) v5 := by
  have hb := But.of_grown hg
  have n : ∀ b, b ≤ y → ¬ va.ownBlock = some b := fun b h1 h2 => by have := h.la b h2; omega
  have hl5 : ∀ b, v5.ownBlock = some b → y < b := fun b hb2 => by
    rcases hd with hd | ⟨b', hd, hge⟩
    · exact h.la b (hd ▸ hb2)
    · rw [hd] at hb2; injection hb2 with hb2; subst hb2; have := h.hd.lt; omega
  have hb2 := But.setCell (T := Is y) (But.refl _ w5) (p := ⟨y, 5, none⟩) rfl v5
  have ny : ∀ b, b < y → ¬ Is y b := fun b h1 h2 => by have e : b = y := h2; omega
  refine ⟨(h.hd.but hb (n y (Nat.le_refl _))).set (i := 5) (by simp) v5, (h.rq.but hb (n Q (Nat.le_of_lt h.lQ))).but hb2 (ny Q h.lQ), (h.mp.but hb (n D (Nat.le_of_lt h.lD))).but hb2 (ny D h.lD), ho.but hb2 (fun b e h2 => by have e2 : b = y := h2; have := hl5 b e; omega), h.lQ, h.lD, h.ne, h.bD, hl5⟩
/-- all have come: the start -/
theorem V0.vr (h : V0 base w y Q D k kk c lb wb kv k va) (hk : 0 < k) {t : Tm} {S : Blocks} (hS : Sub S (Upto base)) (hr : RdT w S t (tmV kk c wb lb kv)) :
    ∃ A ca col, va = .slice (some ⟨A, 0, none⟩) k ca ∧ Vr base w y col t k A ca Q D kk c lb wb kv (.slice none 0 0) ⟨List.replicate k none, List.replicate k [], fun _ => false, []⟩ := by
  obtain ⟨A, ca, hva, hrow⟩ := h.oa.rowAt (by rw [List.length_replicate]; omega)
  rw [List.length_replicate] at hva
  have hyA : y < A := h.la A (by rw [hva]; rfl)
  have h1 := h.lQ
  have h2 := h.lD
  have h3 := h.ne
  have hAl := hrow.lt
  have hyl := h.hd.lt
  refine ⟨A, ca, fun b => if b = y then 0 else if b = A then 1 else if b = Q then 2 else if b = D then 3 else 4, hva, by rw [← hva]; exact h.hd, ⟨S, hS, hr⟩, hrow, ⟨List.replicate k (.slice none 0 0), by simp, h.rq, fun i v hi => ?_⟩, ⟨0, _, h.mp, (show 0 + ndT t (fun _ => false) ≤ _ from by have := ndT_le t (fun _ => false); omega), fun p => rfl⟩, OwnL.nil _ _ _, fun b hb => ?_, fun b hb => ?_, if_pos rfl, ?_, ?_, ?_, (fun b e => by cases e), by simp, by simp⟩
  · rw [List.getElem?_replicate] at hi
    split at hi
    · rename_i hlt
      injection hi with hi; subst hi
      simp only [List.getElem?_replicate, hlt, if_true, Option.getD_some]
      exact RdL.nil (by simp [maxLen])
    · cases hi
  · have e1 := h.hd.ge
    have e2 := hrow.ge
    have e3 := h.rq.ge
    have e4 := h.bD
    by_cases c1 : b = y
    · omega
    · by_cases c2 : b = A
      · omega
      · by_cases c3 : b = Q
        · omega
        · by_cases c4 : b = D
          · omega
          · rw [if_neg c1, if_neg c2, if_neg c3, if_neg c4] at hb; exact absurd rfl hb
  · rw [if_neg (by omega), if_neg (by omega), if_neg (by omega), if_neg (by omega)]
  · rw [if_neg (by omega), if_pos rfl]
  · rw [if_neg (by omega), if_neg (by omega), if_pos rfl]
  · rw [if_neg (by omega), if_neg (by omega), if_neg (Ne.symm h3), if_pos rfl]
end
section
variable {base : Nat} {w w' : World} {y : Nat} {col : Nat → Nat} {t : Tm} {k A ca Q D : Nat} {kk c lb : Int} {wr : Bool} {kv od : Value} {s : Vs}
/-- one more that is done -/
theorem Vr.append (h : Vr base w y col t k A ca Q D kk c lb wr kv od s) {wl w5 : World} (hl : Below w.heap.size w wl) {v5 : Value} (hg : wl.grownBy w5 od.ownBlock) {x : Nat × Nat} (ho : OwnL (Flat encDn okDn) 2 34 w5 base Nowhere (s.out ++ [x]) v5) (hd : v5.ownBlock = od.ownBlock ∨ v5.ownBlock = some wl.heap.size) :
    ∃ col', Vr base (w5.setCell ⟨y, 8, none⟩ v5) y col' t k A ca Q D kk c lb wr kv v5 { s with out := s.out ++ [x] } ∧ (∀ b, b < w.heap.size → col' b = col b) ∧ But (Yc col) w (w5.setCell ⟨y, 8, none⟩ v5) := by
  have h1 := h.below hl
  have hb := But.of_grown hg
  have hT : ∀ b, od.ownBlock = some b → col b ≠ 4 := fun b e => by rw [h.co b e]; decide
  have n : ∀ b c, col b = c → c ≠ 5 → ¬ (od.ownBlock = some b) := fun b c h2 h3 h4 => h3 (h2.symm.trans (h.co b h4))
  have hB : But (Yc col) w (w5.setCell ⟨y, 8, none⟩ v5) := (((But.of_below (T := Yc col) hl).trans (hb.sub (fun b e => hT b e))).setCell (p := ⟨y, 8, none⟩) (show Yc col y by unfold Yc; rw [h.cy]; decide) v5)
  have hb2 := But.setCell (T := Is y) (But.refl _ w5) (p := ⟨y, 8, none⟩) rfl v5
  have ny : ∀ b c, col b = c → c ≠ 0 → ¬ Is y b := fun b c h2 h3 h4 => h3 (by unfold Is at h4; subst h4; exact h2.symm.trans h.cy)
  have hT2 : ∀ b, Is y b → col b ≠ 4 := fun b e => by have e : b = y := e; rw [e, h.cy]; decide
  have hyl : y < w.heap.size := h.hd.lt
  have hlw := hl.size
  have key : ∀ b, v5.ownBlock = some b → b < w.heap.size → col b = 5 := fun b e hlt => by
    rcases hd with hd | hd
    · exact h.co b (hd ▸ e)
    · rw [hd] at e; injection e with e; omega
  have hcol : ∃ col' : Nat → Nat, (∀ b, b < w.heap.size → col' b = col b) ∧ (∀ b, v5.ownBlock = some b → col' b = 5) ∧ (∀ b, w.heap.size ≤ b → v5.ownBlock ≠ some b → col' b = 4) := by
    classical
    refine ⟨fun b => if v5.ownBlock = some b then 5 else col b, fun b hb => ?_, fun b e => if_pos e, fun b hb hne => ?_⟩
    · dsimp only
      by_cases e : v5.ownBlock = some b
      · rw [if_pos e]; exact (key b e hb).symm
      · rw [if_neg e]
    · dsimp only
      rw [if_neg hne]; exact h.new b hb
  obtain ⟨col', c1, c2, c3⟩ := hcol
  have hQl : Q < w.heap.size := by obtain ⟨vs, _, r, _⟩ := h.qs; exact r.lt
  have hDl : D < w.heap.size := by obtain ⟨n, f, r, _⟩ := h.mp; exact r.lt
  have hAl : A < w.heap.size := h.at_.lt
  have hT' : ∀ b, od.ownBlock = some b → col' b ≠ 4 := fun b e => by rw [c1 b (h.dn.lt b e).2, h.co b e]; decide
  have hT2' : ∀ b, Is y b → col' b ≠ 4 := fun b e => by have e : b = y := e; rw [e, c1 y hyl, h.cy]; decide
  have hq2 : QsAt base (w5.setCell ⟨y, 8, none⟩ v5) col' k Q s.qs := ((((h.qs.col c1).but (But.of_below (T := Nowhere) hl) (fun h => h) (fun b hb => hb.elim)).but hb (n Q 2 h.cQ (by decide)) hT').but hb2 (ny Q 2 h.cQ (by decide)) hT2')
  have hlt5 := ho.lt
  refine ⟨col', ⟨(h1.hd.but hb (n y 0 h.cy (by decide))).set (i := 8) (by simp) v5, ?_, (h1.at_.but hb (n A 1 h.cA (by decide))).but hb2 (ny A 1 h.cA (by decide)), hq2, (h1.mp.set hb (n D 3 h.cD (by decide))).set hb2 (ny D 3 h.cD (by decide)), ho.but hb2 (fun b e => ?_), fun b hb => ?_, fun b hx => ?_, (c1 y hyl).trans h.cy, (c1 A hAl).trans h.cA, (c1 Q hQl).trans h.cQ, (c1 D hDl).trans h.cD, c2, h.la, h.lq⟩, c1, hB⟩
  · exact h.rtb hB (fun b e => e)
  · intro e2
    have e2 : b = y := e2
    subst e2
    rcases hd with hd | hd
    · have := h.co b (hd ▸ e); rw [h.cy] at this; cases this
    · rw [hd] at e; injection e with e; omega
  · rcases Nat.lt_or_ge b w.heap.size with hlt | hge
    · exact h.ge b (by rw [← c1 b hlt]; exact hb)
    · exact Nat.le_trans (Nat.le_of_lt (Nat.lt_of_le_of_lt h.hd.ge hyl)) hge
  · rw [size_setCell] at hx
    exact c3 b (Nat.le_trans hlw (Nat.le_trans hg.size hx)) (fun e => by have := (hlt5 b e).2; omega)
end
end Go.Proofs.Ytbpooepbnnbipaa
