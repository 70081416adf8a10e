/- Texts merged: RdT, Bg4, Bg5. -/
import Derived.Test.YtfldajplclahfaaData
import Derived.Test.YtfldajplclahfaaFlat
import Derived.Test.YtfldajplclahfaaGUf1
import Derived.Test.YtfldajplclahfaaGMapO
import Derived.Test.YtfldajplclahfaaBg3
/- Words for a term that is a value. -/
namespace Go.Proofs.Ytfldajplclahfaa
open Go.RowKit
set_option linter.unusedVariables false
abbrev tmV (k c : Int) (wr : Bool) (lb : Int) (v : Value) : Value := .agg #[.int .i64 k, .int .i64 c, .bool wr, .int .i64 lb, v]
/-- the value V reads as the term t -/
def RdT (w : World) (S : Blocks) (t : Tm) (V : Value) : Prop := ∃ k c wr lb kids v, t = .mk k c wr lb kids ∧ V = tmV k c wr lb v ∧ inI k ∧ inI c ∧ inI lb ∧ RdTms w S kids v
theorem RdT.keep {w w' : World} {S S' : Blocks} {t : Tm} {V : Value} (h : RdT w S t V) (hS : Sub S S') (hk : Same S w w') : RdT w' S' t V := by
  obtain ⟨k, c, wr, lb, kids, v, e1, e2, h1, h2, h3, h4⟩ := h
  exact ⟨k, c, wr, lb, kids, v, e1, e2, h1, h2, h3, h4.keep RdTm.keeps hS hk⟩
theorem RdT.go {B : Nat} {w w' : World} {S : Blocks} {t : Tm} {V : Value} (h : RdT w S t V) (hb : Below B w w') (hS : Sub S (Upto B)) : RdT w' S t V := h.keep (Sub.refl _) (same_of_below hb hS)
theorem RdT.but {T : Blocks} {w w' : World} {S : Blocks} {t : Tm} {V : Value} (h : RdT w S t V) (hb : But T w w') (hS : Sub S (Upto w.heap.size)) (hT : ∀ b, S b → ¬ T b) : RdT w' S t V := h.keep (Sub.refl _) (hb.same hS hT)
theorem RdT.slice {w : World} {S : Blocks} {t : Tm} {k c : Int} {wr : Bool} {lb : Int} {v : Value} (h : RdT w S t (tmV k c wr lb v)) : ∃ A n cap, v = .slice A n cap := by
  obtain ⟨k', c', wr', lb', kids, v', _, e, _, _, _, h4⟩ := h
  obtain ⟨A, cap, rfl, _⟩ := h4.form
  injection e with e
  simp only [Array.mk.injEq, List.cons.injEq, and_true] at e
  exact ⟨_, _, _, e.2.2.2.2⟩
/-- a kid -/
theorem RdTms.kid {w : World} {S : Blocks} {l : List Tm} {A : Option Addr} {n cap : Nat} (h : RdTms w S l (.slice A n cap)) {q : Nat} (hq : q < l.length) :
    ∃ b off k c wr lb v, A = some ⟨b, off, none⟩ ∧ S b ∧ w.cell? ⟨b, off + q * 5, none⟩ = some (.int .i64 k) ∧ w.cell? ⟨b, off + q * 5 + 1, none⟩ = some (.int .i64 c) ∧ w.cell? ⟨b, off + q * 5 + 2, none⟩ = some (.bool wr) ∧
      w.cell? ⟨b, off + q * 5 + 3, none⟩ = some (.int .i64 lb) ∧ w.cell? ⟨b, off + q * 5 + 4, none⟩ = some v ∧ RdT w S l[q] (tmV k c wr lb v) := by
  obtain ⟨b, off, cs, hA, hb, _, hc, hr⟩ := RdL.at_ h hq
  generalize l[q] = t at hr
  obtain ⟨k, c, wr, lb, kids⟩ := t
  obtain ⟨h1, h2, h3, v, rfl, h4⟩ := RdTm.open_ hr
  exact ⟨b, off, k, c, wr, lb, v, hA, hb, hc 0 _ rfl, by rw [Nat.add_assoc]; exact hc 1 _ rfl, by rw [Nat.add_assoc]; exact hc 2 _ rfl, by rw [Nat.add_assoc]; exact hc 3 _ rfl, by rw [Nat.add_assoc]; exact hc 4 _ rfl, k, c, wr, lb, kids, v, rfl, rfl, h1, h2, h3, h4⟩
end Go.Proofs.Ytfldajplclahfaa
/- The walk of visit. -/
namespace Go.Proofs.Ytfldajplclahfaa
open Go.RowKit
set_option linter.unusedVariables false
theorem wiB_congr {W V : Nat → Bool} {k : Nat} {x : Int} (h : Ent k x) (hw : ∀ m, m < k → W m = V m) : wiB W x = wiB V x := by
  rcases h with rfl | ⟨m, hm, rfl⟩
  · simp [wiB]
  · unfold wiB; rw [Int.toNat_natCast, hw m hm]
theorem accS_congr {W V : Nat → Bool} {k : Nat} (n : Nat) (a : Acc) (s : Sh) (h1 : Ent k (s.at a.cell).1) (h2 : Ent k (s.at a.cell).2) (hw : ∀ m, m < k → W m = V m) : accS W n a s = accS V n a s := by
  unfold accS newC hitB
  rw [wiB_congr h1 hw, wiB_congr h2 hw]
/-- the finder ahead of the leaves from k on: B tells who is beside -/
structure PreV (n k : Nat) (rt : Nat → Nat) (bd : List Bool) (B : Nat → Bool) : Prop where
  old : ∀ m, m < k → bdB rt bd m = B m
  low : ∀ m, m < k → rt m < k
  new : ∀ m, k ≤ m → m < n → rt m = m ∧ bdB rt bd m = false
/-- .. behind c more leaves, all of one set -/
structure PostV (n k c : Nat) (rt rt' : Nat → Nat) (bd bd' : List Bool) (x : Int) : Prop where
  old : ∀ m, m < k → rt' m = rt m ∧ bdB rt' bd' m = bdB rt bd m
  new : ∀ m, k + c ≤ m → m < n → rt' m = m ∧ bdB rt' bd' m = false
  mid : ∃ r, k ≤ r ∧ (0 < c → r < k + c) ∧ ∀ m, k ≤ m → m < k + c → rt' m = r ∧ bdB rt' bd' m = false
  ret : if c = 0 then x = -1 else ∃ m, k ≤ m ∧ m < k + c ∧ x = (m : Int)
theorem bdB_set (rt : Nat → Nat) (bd : List Bool) (i : Nat) (v : Bool) (m : Nat) (hi : i < bd.length) : bdB rt (bd.set i v) m = if rt m = i then v else bdB rt bd m := by
  unfold bdB
  rw [List.getD_eq_getElem?_getD, List.getD_eq_getElem?_getD, List.getElem?_set]
  by_cases h : rt m = i
  · rw [if_pos h, if_pos h.symm, if_pos hi]; rfl
  · rw [if_neg h, if_neg (fun e => h e.symm)]
def markL (rt : Nat → Nat) (bd : List Bool) (x : Int) (v : Bool) : List Bool := if 0 ≤ x then bd.set (rt x.toNat) v else bd
section
variable {n k ca cb : Nat} {rt rt1 rt3 : Nat → Nat} {bd bd1 bd3 : List Bool} {x1 x3 : Int} {B : Nat → Bool}
theorem PostV.rlt (h1 : PostV n k ca rt rt1 bd bd1 x1) (hx : 0 ≤ x1) : 0 < ca ∧ ∃ m, k ≤ m ∧ m < k + ca ∧ x1 = (m : Int) := by
  have := h1.ret
  by_cases hc : ca = 0
  · rw [if_pos hc] at this; omega
  · rw [if_neg hc] at this; exact ⟨by omega, this⟩
theorem PostV.neg (h1 : PostV n k ca rt rt1 bd bd1 x1) (hx : ¬ 0 ≤ x1) : ca = 0 ∧ x1 = -1 := by
  have := h1.ret
  by_cases hc : ca = 0
  · rw [if_pos hc] at this; exact ⟨hc, this⟩
  · rw [if_neg hc] at this; obtain ⟨m, _, _, e⟩ := this; omega
/-- ahead of the right one -/
theorem PostV.next (p : PreV n k rt bd B) (h1 : PostV n k ca rt rt1 bd bd1 x1) (hl : bd1.length = n) (hn : k + ca ≤ n) (v : Bool) :
    PreV n (k + ca) rt1 (markL rt1 bd1 x1 v) (fun m => if k + ca ≤ m then true else if k ≤ m then v else B m) := by
  obtain ⟨r, r1, r2, r3⟩ := h1.mid
  unfold markL
  by_cases hx : 0 ≤ x1
  · obtain ⟨hc, mm, m1, m2, rfl⟩ := h1.rlt hx
    rw [if_pos hx, Int.toNat_natCast, (r3 mm m1 m2).1]
    have hrl := r2 hc
    refine ⟨fun m hm => ?_, fun m hm => ?_, fun m hm1 hm2 => ?_⟩
    · rw [bdB_set _ _ _ _ _ (by omega), if_neg (by omega : ¬ k + ca ≤ m)]
      by_cases hk : k ≤ m
      · rw [if_pos hk, if_pos (r3 m hk hm).1]
      · rw [if_neg hk, if_neg (by have := (h1.old m (by omega)).1; have := p.low m (by omega); omega), (h1.old m (by omega)).2]
        exact p.old m (by omega)
    · by_cases hk : k ≤ m
      · rw [(r3 m hk hm).1]; omega
      · rw [(h1.old m (by omega)).1]; have := p.low m (by omega); omega
    · have := h1.new m hm1 hm2
      refine ⟨this.1, ?_⟩
      rw [bdB_set _ _ _ _ _ (by omega), if_neg (by omega)]
      exact this.2
  · obtain ⟨rfl, _⟩ := h1.neg hx
    rw [if_neg hx]
    refine ⟨fun m hm => ?_, fun m hm => ?_, fun m hm1 hm2 => h1.new m hm1 hm2⟩
    · rw [if_neg (by omega : ¬ k + 0 ≤ m), if_neg (by omega : ¬ k ≤ m), (h1.old m (by omega)).2]
      exact p.old m (by omega)
    · rw [(h1.old m (by omega)).1]; have := p.low m (by omega); omega
/-- behind both: one of them has no leaves -/
theorem PostV.both (p : PreV n k rt bd B) (h1 : PostV n k ca rt rt1 bd bd1 x1) (hl : bd1.length = n) (hl3 : bd3.length = n) (hn : k + (ca + cb) ≤ n) (v : Bool)
    (h3 : PostV n (k + ca) cb rt1 rt3 (markL rt1 bd1 x1 v) bd3 x3) (hneg : x1 < 0 ∨ x3 < 0) :
    PostV n k (ca + cb) rt rt3 bd (markL rt3 bd3 x1 false) (max x1 x3) := by
  obtain ⟨r, r1, r2, r3⟩ := h1.mid
  obtain ⟨q, q1, q2, q3⟩ := h3.mid
  by_cases hx : 0 ≤ x1
  · obtain ⟨hc, mm, m1, m2, rfl⟩ := h1.rlt hx
    obtain ⟨rfl, rfl⟩ := h3.neg (by omega)
    have hrl := r2 hc
    have hrt3 : rt3 mm = r := by rw [(h3.old mm m2).1]; exact (r3 mm m1 m2).1
    have hm1 : markL rt1 bd1 (mm : Int) v = bd1.set r v := by unfold markL; rw [if_pos hx, Int.toNat_natCast, (r3 mm m1 m2).1]
    rw [hm1] at h3
    unfold markL
    rw [if_pos hx, Int.toNat_natCast, hrt3]
    refine ⟨fun m hm => ?_, fun m hm1 hm2 => ?_, ⟨r, r1, fun _ => by omega, fun m hk hm => ?_⟩, ?_⟩
    · have a1 := h3.old m (by omega)
      have a2 := h1.old m hm
      have a3 := p.low m hm
      refine ⟨a1.1.trans a2.1, ?_⟩
      rw [bdB_set _ _ _ _ _ (by omega), if_neg (by omega), a1.2, bdB_set _ _ _ _ _ (by omega), if_neg (by omega), a2.2]
    · have := h3.new m (by omega) hm2
      refine ⟨this.1, ?_⟩
      rw [bdB_set _ _ _ _ _ (by omega), if_neg (by omega)]
      exact this.2
    · have e : rt3 m = r := by rw [(h3.old m (by omega)).1]; exact (r3 m hk (by omega)).1
      refine ⟨e, ?_⟩
      rw [bdB_set _ _ _ _ _ (by omega), if_pos e]
    · rw [if_neg (by omega)]
      exact ⟨mm, m1, by omega, by omega⟩
  · obtain ⟨rfl, rfl⟩ := h1.neg hx
    have hm : ∀ (t : Nat → Nat) (b : List Bool) (u : Bool), markL t b (-1) u = b := fun t b u => by unfold markL; rw [if_neg (by omega)]
    rw [hm] at h3 ⊢
    refine ⟨fun m hm => ?_, fun m hm1 hm2 => h3.new m (by omega) hm2, ⟨q, by omega, fun _ => by have := q2; omega, fun m hk hm => q3 m (by omega) (by omega)⟩, ?_⟩
    · have a1 := h3.old m (by omega)
      have a2 := h1.old m hm
      exact ⟨a1.1.trans a2.1, a1.2.trans a2.2⟩
    · have := h3.ret
      by_cases hc : cb = 0
      · rw [if_pos hc] at this; rw [if_pos (by omega), this]; rfl
      · rw [if_neg hc] at this
        obtain ⟨m, e1, e2, e3⟩ := this
        rw [if_neg (by omega)]
        exact ⟨m, by omega, by omega, by omega⟩
/-- .. both have, and are made one -/
theorem PostV.join (p : PreV n k rt bd B) (h1 : PostV n k ca rt rt1 bd bd1 x1) (hl : bd1.length = n) (hl3 : bd3.length = n) (hn : k + (ca + cb) ≤ n) (v : Bool)
    (h3 : PostV n (k + ca) cb rt1 rt3 (markL rt1 bd1 x1 v) bd3 x3) (hx1 : 0 ≤ x1) (hx3 : 0 ≤ x3) :
    rt3 x1.toNat ≠ rt3 x3.toNat ∧ ∀ (a b : Nat), ((a = rt3 x1.toNat ∧ b = rt3 x3.toNat) ∨ (a = rt3 x3.toNat ∧ b = rt3 x1.toNat)) →
      PostV n k (ca + cb) rt (fun m => if rt3 m = b then a else rt3 m) bd ((markL rt3 bd3 x1 false).set a false) (a : Int) := by
  obtain ⟨r, r1, r2, r3⟩ := h1.mid
  obtain ⟨q, q1, q2, q3⟩ := h3.mid
  obtain ⟨hc, mm, m1, m2, rfl⟩ := h1.rlt hx1
  obtain ⟨hcb, nn, n1, n2, rfl⟩ := h3.rlt hx3
  have hrl := r2 hc
  have hql := q2 hcb
  have hrt3 : rt3 mm = r := by rw [(h3.old mm m2).1]; exact (r3 mm m1 m2).1
  have hqt3 : rt3 nn = q := (q3 nn n1 n2).1
  have hm1 : markL rt1 bd1 (mm : Int) v = bd1.set r v := by unfold markL; rw [if_pos hx1, Int.toNat_natCast, (r3 mm m1 m2).1]
  rw [hm1] at h3
  rw [Int.toNat_natCast, Int.toNat_natCast, hrt3, hqt3]
  refine ⟨by omega, fun a b hab => ?_⟩
  have hml : markL rt3 bd3 (mm : Int) false = bd3.set r false := by unfold markL; rw [if_pos hx1, Int.toNat_natCast, hrt3]
  rw [hml]
  have hbd : ∀ m, bdB (fun m => if rt3 m = b then a else rt3 m) ((bd3.set r false).set a false) m = if rt3 m = r ∨ rt3 m = q then false else bdB rt3 bd3 m := by
    intro m
    rw [bdB_set _ _ _ _ _ (by rw [List.length_set]; omega)]
    by_cases hb : rt3 m = b
    · rw [if_pos hb, if_pos rfl, if_pos (by omega)]
    · rw [if_neg hb]
      by_cases ha : rt3 m = a
      · rw [if_pos ha, if_pos (by omega)]
      · rw [if_neg ha, if_neg (by omega)]
        have e : bdB (fun m => if rt3 m = b then a else rt3 m) (bd3.set r false) m = bdB rt3 (bd3.set r false) m := by
          unfold bdB; dsimp only; rw [if_neg hb]
        rw [e, bdB_set _ _ _ _ _ (by omega), if_neg (by omega)]
  refine ⟨fun m hm => ?_, fun m hm1 hm2 => ?_, ⟨a, by omega, fun _ => by omega, fun m hk hm => ?_⟩, ?_⟩
  · have a1 := h3.old m (by omega)
    have a2 := h1.old m hm
    have a3 := p.low m hm
    have a4 : rt3 m = rt m := a1.1.trans a2.1
    refine ⟨by rw [if_neg (by omega)]; exact a4, ?_⟩
    rw [hbd, if_neg (by omega), a1.2, bdB_set _ _ _ _ _ (by omega), if_neg (by omega), a2.2]
  · have := h3.new m (by omega) hm2
    refine ⟨by rw [if_neg (by omega)]; exact this.1, ?_⟩
    rw [hbd, if_neg (by omega)]
    exact this.2
  · have e : rt3 m = r ∨ rt3 m = q := by
      rcases Nat.lt_or_ge m (k + ca) with h | h
      · exact .inl (by rw [(h3.old m h).1]; exact (r3 m hk h).1)
      · exact .inr (q3 m h (by omega)).1
    refine ⟨?_, by rw [hbd, if_pos e]⟩
    by_cases hb : rt3 m = b
    · rw [if_pos hb]
    · rw [if_neg hb]; omega
  · rw [if_neg (by omega)]
    exact ⟨a, by omega, by omega, rfl⟩
end
end Go.Proofs.Ytfldajplclahfaa
/- The walk of visit. -/
namespace Go.Proofs.Ytfldajplclahfaa
open Go.RowKit
set_option linter.unusedVariables false
theorem FinAt.ftge {base n : Nat} {w : World} {F : Fd} {vf : Value} {k K : Nat} {rt : Nat → Nat} {bd : List Bool} {sh : Sh} (f : FinAt base n w F vf k K rt bd sh) : ∀ g, FT F vf g → base ≤ g ∧ g < w.heap.size := by
  intro g hg
  rcases hg with hg | hg
  · exact ⟨(f.lt g hg).2, (f.lt g hg).1⟩
  · exact f.found.lt g hg
def VTells (t : Tm) : Prop := ∀ (base n : Nat) (w : World) (F : Fd) (vf : Value) (k : Nat) (rt : Nat → Nat) (bd : List Bool) (sh : Sh) (B : Nat → Bool) (S : Blocks) (V : Value), FinAt base n w F vf k k rt bd sh → PreV n k rt bd B → k + t.count ≤ n → RdT w S t V → Sub S (Upto base) →
  Calls Try.prog 40 #[.pointer (some ⟨F.d, 0, none⟩), V] w fun e w' => ∃ (x : Int) (vf' : Value) (rt' : Nat → Nat) (bd' : List Bool), e = .returned (.int .i64 x) ∧ FinAt base n w' F vf' (k + t.count) (k + t.count) rt' bd' (t.vis k B sh) ∧
    PostV n k t.count rt rt' bd bd' x ∧ But (FT F vf) w w' ∧ NewOr vf vf' w.heap.size
set_option maxHeartbeats 1000000 in
set_option maxRecDepth 100000 in
theorem vtells_none (t : Tm) (ht : t.two = none) : VTells t := by
  intro base n w F vf k rt bd sh B S V f p hn r hS
  obtain ⟨kk, c, wr, lb, kids, v, rfl, rfl, hk, hc, hlb, hkids⟩ := r
  have hnb := f.nb
  have HP := Lib.hid (show (Tm.mk kk c wr lb kids).vis k B sh = if kk = 1 then accS B k ⟨c, wr, lb⟩ sh else sh from Tm.vis_none ht k B sh)
  have HC := Lib.hid (show (Tm.mk kk c wr lb kids).count = if kk = 1 then 1 else 0 from Tm.count_none ht)
  have HTN := Lib.hid (show (kk ≠ 2 ∧ kk ≠ 3) ∨ kids.length < 2 from Tm.two_none ht)
  obtain ⟨A, cap, rfl, hcl, hcm, _⟩ := hkids.form
  have bel : Below w.heap.size w (w.alloc (.cells #[.int .i64 kk, .int .i64 c, .bool wr, .int .i64 lb, .slice A kids.length cap] 26)) := (Below.refl _ _).alloc (Nat.le_refl _) _
  have FH := Lib.hid (f.below bel)
  have HFT := Lib.hid f.ftge
  have BW := Lib.hid (show But (FT F vf) w (w.alloc (.cells #[.int .i64 kk, .int .i64 c, .bool wr, .int .i64 lb, .slice A kids.length cap] 26)) from But.of_below bel)
  have BX := Lib.hid (Blk.made w [.int .i64 kk, .int .i64 c, .bool wr, .int .i64 lb, .slice A kids.length cap] 26 (base := 0) (Nat.zero_le _))
  have HE := Lib.hid f.ent_at
  have HPV := Lib.hid p
  have hszz : ((w.alloc (.cells #[.int .i64 kk, .int .i64 c, .bool wr, .int .i64 lb, .slice A kids.length cap] 26))).heap.size = w.heap.size + 1 := by simp
  have hsz1 := Nat.le_of_eq hszz
  have hsz2 := Nat.le_of_eq hszz.symm
  unfold maxLen at hcm
  unfold tmV
  generalize kids.length = n' at *
  rw [HC.out] at hn ⊢
  rw [HP.out]
  clear f p bel hkids hk hlb HP HC ht hszz
  by_cases h1 : kk = 1
  · subst h1
    rw [if_pos rfl] at hn ⊢
    rw [if_pos rfl]
    go_enter Try.func40, Try.ntmps40
    go_upto_region 2 with (fail)
    obtain ⟨X, hX⟩ : ∃ X, X = w.heap.size := ⟨_, rfl⟩
    rw [← hX] at BX ⊢
    clear hX
    generalize w.alloc (.cells #[.int .i64 1, .int .i64 c, .bool wr, .int .i64 lb, .slice A n' cap] 26) = W at *
    have x0 := BX.out.cell 0 _ rfl; have x1 := BX.out.cell 1 _ rfl; have x2 := BX.out.cell 2 _ rfl; have x3 := BX.out.cell 3 _ rfl; have x4 := BX.out.cell 4 _ rfl
    go_wp2_with fail
    refine (access_any FH.out c lb wr hc (by omega)).mono ?_
    rintro e w1 ⟨rfl, vf1, f1, b1, n1⟩
    have F1 := Lib.hid f1
    have B1 := Lib.hid (BW.out.trans b1)
    have HN1 := Lib.hid (show NewOr vf vf1 w.heap.size from fun g hg => by
      rcases n1 g hg with e | e
      · exact .inl e
      · exact .inr (by omega))
    have d3 := F1.out.blk.cell 3 _ rfl
    have hkw : IntKind.i64.wrap (((k + 1 : Nat) : Int) - 1) = (k : Int) := by rw [IntWalk.i64_in _ (by omega)]; omega
    have hkw2 : wrap64 (((k + 1 : Nat) : Int) - 1) = (k : Int) := by rw [IntWalk.wrap64_in _ (by omega)]; omega
    clear f1 b1 n1 x0 x1 x2 x3 x4
    rw [Int.natCast_add] at d3 hkw hkw2
    go_wp2
    go_ret
    have hac := accS_congr (W := bdB rt bd) (V := B) k ⟨c, wr, lb⟩ sh (HE.out c).1 (HE.out c).2 HPV.out.old
    refine ⟨(k : Int), vf1, rt, bd, rfl, by rw [← hac]; exact F1.out, ⟨fun m hm => ⟨rfl, rfl⟩, fun m h1 h2 => HPV.out.new m (by omega) h2, ⟨k, Nat.le_refl _, fun _ => by omega, fun m h1 h2 => ?_⟩, ?_⟩, B1.out, HN1.out⟩
    · have := HPV.out.new m h1 (by omega)
      exact ⟨by omega, this.2⟩
    · rw [if_neg (by omega)]
      exact ⟨k, Nat.le_refl _, by omega, rfl⟩
  · rw [if_neg h1] at hn ⊢
    rw [if_neg h1]
    have h1b : (kk == 1) = false := by simpa using h1
    have HR : ∀ W1, But (FT F vf) w W1 → FinAt base n W1 F vf k k rt bd sh → ∃ (x : Int) (vf' : Value) (rt' : Nat → Nat) (bd' : List Bool), Ending.returned (.int .i64 (-1)) = .returned (.int .i64 x) ∧ FinAt base n W1 F vf' (k + 0) (k + 0) rt' bd' sh ∧
        PostV n k 0 rt rt' bd bd' x ∧ But (FT F vf) w W1 ∧ NewOr vf vf' w.heap.size := fun W1 hb hf =>
      ⟨-1, vf, rt, bd, rfl, hf, ⟨fun m hm => ⟨rfl, rfl⟩, fun m h1 h2 => HPV.out.new m (by omega) h2, ⟨k, Nat.le_refl _, fun h => by omega, fun m h1 h2 => by omega⟩, by rw [if_pos rfl]⟩, hb, NewOr.refl _ _⟩
    have HRH := Lib.hid HR
    clear HR
    rcases HTN.out with ⟨h2, h3⟩ | h2
    · have h2b : (kk == 2) = false := by simpa using h2
      have h3b : (kk == 3) = false := by simpa using h3
      go_enter Try.func40, Try.ntmps40
      go_wp2
      go_ret
      exact HRH.out _ BW.out FH.out
    · have h2i : (n' : Int) < 2 := by omega
      by_cases e2 : kk = 2
      · subst e2
        go_enter Try.func40, Try.ntmps40
        go_wp2
        go_ret
        exact HRH.out _ BW.out FH.out
      · have h2b : (kk == 2) = false := by simpa using e2
        by_cases e3 : kk = 3
        · subst e3
          go_enter Try.func40, Try.ntmps40
          go_wp2
          go_ret
          exact HRH.out _ BW.out FH.out
        · have h3b : (kk == 3) = false := by simpa using e3
          go_enter Try.func40, Try.ntmps40
          go_wp2
          go_ret
          exact HRH.out _ BW.out FH.out
end Go.Proofs.Ytfldajplclahfaa
