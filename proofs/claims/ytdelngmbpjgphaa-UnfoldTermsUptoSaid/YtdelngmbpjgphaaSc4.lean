/- The walker of scope in memory; the walks of uses and within. -/
import Derived.Test.YtdelngmbpjgphaaSc3
namespace Go.Proofs.Ytdelngmbpjgphaa
open Go.RowKit
set_option linter.unusedVariables false
/-- block z: what is bound and what is free -/
structure Wk (base : Nat) (w : World) (z : Nat) (B F : List Str) (vb vf : Value) : Prop where
  blk : Blk base w z [vb, vf]
  ob : OwnSs 9 w base Nowhere B vb
  of_ : OwnSs 9 w base Nowhere F vf
  nb : ∀ k, vb.ownBlock = some k → k ≠ z
  nf : ∀ k, vf.ownBlock = some k → k ≠ z
  nbf : ∀ k, vb.ownBlock = some k → vf.ownBlock ≠ some k
def WT (z : Nat) (vb vf : Value) : Blocks := fun k => k = z ∨ vb.ownBlock = some k ∨ vf.ownBlock = some k
section
variable {base : Nat} {w w' w2 : World} {z : Nat} {B F : List Str} {vb vf v2 : Value}
theorem Wk.below (h : Wk base w z B F vb vf) (hb : Below w.heap.size w w') : Wk base w' z B F vb vf :=
  ⟨h.blk.below hb, h.ob.keep Flat.keeps hb, h.of_.keep Flat.keeps hb, h.nb, h.nf, h.nbf⟩
theorem Wk.ge (h : Wk base w z B F vb vf) : ∀ k, WT z vb vf k → base ≤ k := fun k hk => by
  rcases hk with rfl | hk | hk
  · exact h.blk.ge
  · exact (h.ob.lt k hk).1
  · exact (h.of_.lt k hk).1
theorem Wk.lt (h : Wk base w z B F vb vf) : ∀ k, WT z vb vf k → k < w.heap.size := fun k hk => by
  rcases hk with rfl | hk | hk
  · exact h.blk.lt
  · exact (h.ob.lt k hk).2
  · exact (h.of_.lt k hk).2
/-- the free ones' row has turned, and is put down -/
theorem Wk.pushF {F2 : List Str} (h : Wk base w z B F vb vf) (hg : w.grownBy w2 vf.ownBlock) (ho : OwnSs 9 w2 base Nowhere F2 v2) (hn : ∀ k, v2.ownBlock = some k → vf.ownBlock = some k ∨ w.heap.size ≤ k) :
    Wk base (w2.setCell ⟨z, 1, none⟩ v2) z B F2 vb v2 ∧ But (WT z vb vf) w (w2.setCell ⟨z, 1, none⟩ v2) ∧ New w vf v2 := by
  have hbut := But.of_grown hg
  have hz : ¬ (vf.ownBlock = some z) := fun e => h.nf z e rfl
  have b1 := h.blk.but hbut hz
  have b2 := h.ob.but hbut (fun k hk e => h.nbf k hk e)
  have hset := (But.refl (Is z) w2).setCell (p := ⟨z, 1, none⟩) rfl v2
  have hnz : ∀ k, v2.ownBlock = some k → k ≠ z := fun k hk => by
    rcases hn k hk with e | e
    · exact h.nf k e
    · have := h.blk.lt; omega
  refine ⟨⟨?_, b2.but hset (fun k hk e => h.nb k hk e), OwnL.but ho hset (fun k hk e => hnz k hk e), h.nb, hnz, fun k hk e => ?_⟩, ?_, hn⟩
  · exact b1.set (i := 1) (by simp) v2
  · rcases hn k e with e | e
    · exact h.nbf k hk e
    · have := (h.ob.lt k hk).2; omega
  · exact (hbut.sub (fun k hk => .inr (.inr hk))).setCell (p := ⟨z, 1, none⟩) (.inl rfl) v2
theorem Wk.pushB {B2 : List Str} (h : Wk base w z B F vb vf) (hg : w.grownBy w2 vb.ownBlock) (ho : OwnSs 9 w2 base Nowhere B2 v2) (hn : ∀ k, v2.ownBlock = some k → vb.ownBlock = some k ∨ w.heap.size ≤ k) :
    Wk base (w2.setCell ⟨z, 0, none⟩ v2) z B2 F v2 vf ∧ But (WT z vb vf) w (w2.setCell ⟨z, 0, none⟩ v2) ∧ New w vb v2 := by
  have hbut := But.of_grown hg
  have hz : ¬ (vb.ownBlock = some z) := fun e => h.nb z e rfl
  have b1 := h.blk.but hbut hz
  have b2 := h.of_.but hbut (fun k hk e => h.nbf k e hk)
  have hset := (But.refl (Is z) w2).setCell (p := ⟨z, 0, none⟩) rfl v2
  have hnz : ∀ k, v2.ownBlock = some k → k ≠ z := fun k hk => by
    rcases hn k hk with e | e
    · exact h.nb k e
    · have := h.blk.lt; omega
  refine ⟨⟨?_, OwnL.but ho hset (fun k hk e => hnz k hk e), b2.but hset (fun k hk e => h.nf k hk e), hnz, h.nf, fun k hk e => ?_⟩, ?_, hn⟩
  · exact b1.set (i := 0) (by simp) v2
  · rcases hn k hk with e' | e'
    · exact h.nbf k e' e
    · have := (h.of_.lt k e).2; omega
  · exact (hbut.sub (fun k hk => .inr (.inl hk))).setCell (p := ⟨z, 0, none⟩) (.inl rfl) v2
/-- two calls, one behind the other -/
theorem WT.step {a b c : World} {vb1 vf1 : Value} (h : But (WT z vb vf) a b) (k : But (WT z vb1 vf1) b c) (n1 : New a vb vb1) (n2 : New a vf vf1) : But (WT z vb vf) a c :=
  h.step k (fun i hi => by
    rcases hi with hi | hi | hi
    · exact .inl (.inl hi)
    · exact (n1 i hi).imp (fun h => .inr (.inl h)) id
    · exact (n2 i hi).imp (fun h => .inr (.inr h)) id)
end
theorem own_cases {v v2 : Value} {w : World} {n : Nat} (h : v2.ownBlock = v.ownBlock ∨ v2.ownBlock = some n) (hn : w.heap.size ≤ n) : ∀ k, v2.ownBlock = some k → v.ownBlock = some k ∨ w.heap.size ≤ k := fun k hk => by
  rcases h with h | h <;> rw [h] at hk
  · exact .inl hk
  · simp only [Option.some.injEq] at hk; exact .inr (by omega)
theorem free_step {F G B : List Str} {ns : List Str} {q : Nat} (hq : q < ns.length) (hG : G = merge F (lnot (ns.take q) B)) :
    merge F (lnot (ns.take (q + 1)) B) = if hasS B ns[q] = true then G else if hasS G ns[q] = true then G else G ++ [ns[q]] := by
  subst hG
  rw [lnot_step _ _ hq]
  by_cases h : hasS B ns[q] = true
  · rw [if_pos h, if_pos h]
  · rw [if_neg h, if_neg h, merge_snoc]
    unfold hasS
    by_cases h2 : ns[q] ∈ merge F (lnot (ns.take q) B) <;> simp [h2]
set_option maxHeartbeats 2000000 in
set_option maxRecDepth 100000 in
theorem uses_any (t : Ex) (base : Nat) (w : World) (S : Blocks) (z : Nat) (B F : List Str) (vb vf V : Value) (hS : Sub S (Upto base)) (hbs : base ≤ w.heap.size) (r : RdE w S t V) (hw : Wk base w z B F vb vf) (hwt : t.wt ≤ 1048576) (hB : B.length ≤ 1073741824) (hF : F.length + t.wt ≤ 1073741824) :
    Calls Try.prog 68 #[.pointer (some ⟨z, 0, none⟩), V] w fun e w' => (∃ x, e = .returned x) ∧ ∃ vf', Wk base w' z B (merge F (lnot t.names B)) vb vf' ∧ But (WT z vb vf) w w' ∧ New w vf vf' := by
  have hnl := t.names_len
  obtain ⟨k, c, s, args, v0, rfl, rfl, hk, hc, hs, hargs⟩ := id r
  obtain ⟨A, cap, rfl, _, _, _⟩ := hargs.form
  have bel : Below w.heap.size w (w.alloc (.cells #[.int .i64 k, .int .i64 c, .string s, .slice A args.length cap] 110)) := (Below.refl _ _).alloc (Nat.le_refl _) _
  have RA := Lib.hid (r.go bel (hS.trans (Sub.upto hbs)))
  have BEL := Lib.hid bel
  have HSU := Lib.hid (show Sub S (Upto (w.alloc (.cells #[.int .i64 k, .int .i64 c, .string s, .slice A args.length cap] 110)).heap.size) from hS.trans (Sub.upto (by simp; omega)))
  have HW := Lib.hid hw
  have HWT := Lib.hid hwt
  obtain ⟨i0, hi, hz0, hz1', hz2⟩ := info_parts infoStr
  unfold exV
  clear hargs r bel hk hc hs hS hw
  go_enter Try.func68, Try.ntmps68
  go_wp2_with fail
  refine (names_any _ _ S _ HSU.out RA.out HWT.out).mono ?_
  rintro e w1 ⟨u, rfl, hf, b1⟩
  rw [World.size_alloc] at hf
  have hz1 := b1.size
  rw [World.size_alloc] at hz1
  have B1 := Lib.hid (BEL.out.trans (b1.mono (by simp)))
  have HK1 := Lib.hid (HW.out.below B1.out)
  have HWL := Lib.hid (fun k hk => HW.out.lt k hk : ∀ k, WT z vb vf k → k < w.heap.size)
  clear BEL b1 RA HSU HWT HW
  obtain ⟨ns, hns⟩ : ∃ ns, ns = (Ex.mk k c s args).names := ⟨_, rfl⟩
  rw [← hns] at hf hnl
  have HNS := Lib.hid hns
  clear hns
  have HF := Lib.hid hf
  obtain ⟨An, cn, rfl, hcl, hcm, _⟩ := hf.form
  unfold maxLen at hcm
  clear hf hwt
  go_wp2_with fail
  go_loopw [9] (fun t wr => ∃ q : Nat, q ≤ ns.length ∧ t = .int .i64 q ∧ ∃ vf', Hid (Wk base wr z B (merge F (lnot (ns.take q) B)) vb vf') ∧ Hid (But (WT z vb vf) w1 wr) ∧ Hid (New w1 vf vf')) (fun t _ => ns.length - (intOf t).toNat)
  case atStart => exact ⟨0, by omega, rfl, vf, HK1, Lib.hid (But.refl _ _), Lib.hid (New.refl _ _)⟩
  case round =>
    clear HK1
    obtain ⟨q, hq, rfl, vf', HK, HB, HN⟩ := hrel
    by_cases hlt : q < ns.length
    · have rT := HF.out.keep Flat.keeps (Sub.refl _) (HB.out.same (Sub.plus_upto (Sub.nowhere _)) (fun k hk h => by have := HWL.out k h; rcases hk with hk | hk; exact hk; omega))
      obtain ⟨bb, off, rfl, hsb, hok, hc⟩ := RdSs.at1 rT hlt
      obtain ⟨G, hG⟩ : ∃ G, G = merge F (lnot (ns.take q) B) := ⟨_, rfl⟩
      have HST := Lib.hid (free_step hlt hG)
      have hgl : G.length ≤ F.length + q := by
        rw [hG]; refine Nat.le_trans (merge_len _ _) ?_
        have := lnot_len (ns.take q) B; simp at this; omega
      rw [← hG] at HK
      obtain ⟨x, hx⟩ : ∃ x, x = ns[q] := ⟨_, rfl⟩
      rw [← hx] at hc HST hok
      have hwr : base ≤ wr.heap.size := by have := HB.out.size; omega
      have RB := Lib.hid (HK.out.ob.toRd (bytes := 16) (S' := Plus Nowhere base wr.heap.size) Flat.keeps (by omega) (Sub.nowhere _) (fun b h1 h2 => .inr ⟨h1, h2⟩))
      have RF := Lib.hid (HK.out.of_.toRd (bytes := 16) (S' := Plus Nowhere base wr.heap.size) Flat.keeps (by omega) (Sub.nowhere _) (fun b h1 h2 => .inr ⟨h1, h2⟩))
      have k0 := HK.out.blk.cell 0 _ rfl
      have k1 := HK.out.blk.cell 1 _ rfl
      have hq0 : (0 : Int) ≤ (q : Int) := by omega
      have hq1 : (q : Int) < (ns.length : Int) := by omega
      have HOK := Lib.hid hok
      have hlt' := hlt
      clear hG rT hx hok
      cases h1 : hasS B x
      · cases h2 : hasS G x
        · have HM := Lib.hid (show merge F (lnot (ns.take (q + 1)) B) = G ++ [x] by rw [HST.out, h1, h2]; rfl)
          go_wp2_with (first | (go_at_call_of 78 vb; refine (containsS B x _ _ _ RB.out).mono ?_; rintro e w' ⟨rfl, rfl⟩) | (go_at_call_of 78 vf'; refine (containsS G x _ _ _ RF.out).mono ?_; rintro e w' ⟨rfl, rfl⟩) | (at_builtin; refine wpList_append_one rfl _ _ 69 rfl i0 _ Try.underlying69 hi hz0 hz1' hz2 rfl (by decide) Flat.keeps HK.out.of_ (x := x) (cs := [Value.string x]) (Tx := Nowhere) ?d0 rfl rfl rfl (Sub.nowhere _) (Sub.nowhere _) not_nowhere ?d1 ?d2 ?d3 ?d4 ?_))
          case d0 => exact ⟨rfl, HOK.out⟩
          case d1 => simp [Value.oneCell']
          case d2 => unfold maxLen; omega
          case d3 => omega
          try (case d4 => exact hwr)
          intro v2 w2 ho2 hg2 hn2
          obtain ⟨A2, c2, rfl⟩ := ho2.form
          obtain ⟨p1, p2, p3⟩ := Wk.pushF HK.out hg2 ho2 (own_cases hn2 (Nat.le_succ _))
          have hOk2 := grown_cell hg2 k1 (fun e => HK.out.nf z e rfl)
          have hOf2 : w2.frozen? ⟨z, 1, none⟩ = false := grown_frozen hg2 (HK.out.blk.fr 1) HK.out.blk.lt (fun e => HK.out.nf z e rfl)
          have P1 := Lib.hid p1
          have P2 := Lib.hid (HB.out.step p2 (fun i hi => by
            rcases hi with hi | hi | hi
            · exact .inl (.inl hi)
            · exact .inl (.inr (.inl hi))
            · exact (HN.out i hi).imp (fun h => .inr (.inr h)) id))
          have P3 := Lib.hid (HN.out.trans p3 HB.out.size)
          rw [List.length_append, List.length_singleton] at P1 P2 P3
          clear ho2 hg2 hn2 p1 p2 p3 k0 k1 h1 h2 hc
          go_wp2_with fail
          go_roundw
          case rel => exact ⟨q + 1, by omega, by go_num, _, Lib.hid (by rw [HM.out]; exact P1.out), P2, P3⟩
          case measure => simp [intOf]; omega
        · have HM := Lib.hid (show merge F (lnot (ns.take (q + 1)) B) = G by rw [HST.out, h1, h2]; rfl)
          go_wp2_with (first | (go_at_call_of 78 vb; refine (containsS B x _ _ _ RB.out).mono ?_; rintro e w' ⟨rfl, rfl⟩) | (go_at_call_of 78 vf'; refine (containsS G x _ _ _ RF.out).mono ?_; rintro e w' ⟨rfl, rfl⟩))
          go_roundw
          case rel => exact ⟨q + 1, by omega, by go_num, _, Lib.hid (by rw [HM.out]; exact HK.out), HB, HN⟩
          case measure => simp [intOf]; omega
      · have HM := Lib.hid (show merge F (lnot (ns.take (q + 1)) B) = G by rw [HST.out, h1]; rfl)
        go_wp2_with (go_at_call_of 78 vb; refine (containsS B x _ _ _ RB.out).mono ?_; rintro e w' ⟨rfl, rfl⟩)
        go_roundw
        case rel => exact ⟨q + 1, by omega, by go_num, _, Lib.hid (by rw [HM.out]; exact HK.out), HB, HN⟩
        case measure => simp [intOf]; omega
    · have hqe : q = ns.length := by omega
      subst hqe
      rw [List.take_length] at HK
      go_wp2
      go_end0
      exact ⟨⟨_, rfl⟩, vf', by rw [← HNS.out]; exact HK.out, (But.of_below B1.out).trans HB.out, fun k hk => (HN.out k hk).imp id (fun h => by omega)⟩
end Go.Proofs.Ytdelngmbpjgphaa
