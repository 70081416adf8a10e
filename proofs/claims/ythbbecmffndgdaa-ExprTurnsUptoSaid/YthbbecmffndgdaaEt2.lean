/- The walks of expr.with and of the small closures of Put and Fold. -/
import Derived.Test.YthbbecmffndgdaaEt1
import Derived.Test.YthbbecmffndgdaaEx1
namespace Go.Proofs.Ythbbecmffndgdaa
open Go.RowKit
set_option linter.unusedVariables false
def set4 (w : World) (R : Nat) (u0 u1 u2 u3 : Value) : World := (((w.setCell ⟨R, 0, none⟩ u0).setCell ⟨R, 1, none⟩ u1).setCell ⟨R, 2, none⟩ u2).setCell ⟨R, 3, none⟩ u3
theorem set4_size (w : World) (R : Nat) (u0 u1 u2 u3 : Value) : (set4 w R u0 u1 u2 u3).heap.size = w.heap.size := by unfold set4; rw [size_setCell, size_setCell, size_setCell, size_setCell]
theorem set4_below {B : Nat} {a w : World} {R : Nat} {u0 u1 u2 u3 : Value} (h : Below B a w) (hR : B ≤ R) : Below B a (set4 w R u0 u1 u2 u3) :=
  (((h.setCell (p := ⟨R, 0, none⟩) hR u0).setCell (p := ⟨R, 1, none⟩) hR u1).setCell (p := ⟨R, 2, none⟩) hR u2).setCell (p := ⟨R, 3, none⟩) hR u3
theorem set4_same {S : Blocks} {w : World} {R : Nat} {u0 u1 u2 u3 : Value} (h : ¬ S R) : Same S w (set4 w R u0 u1 u2 u3) :=
  (((same_setCell (p := ⟨R, 0, none⟩) h u0).setCell (p := ⟨R, 1, none⟩) h u1).setCell (p := ⟨R, 2, none⟩) h u2).setCell (p := ⟨R, 3, none⟩) h u3
theorem plus_in {S : Blocks} {n m k j : Nat} (hn : n ≤ k) (hj : m ≤ j) : Sub (Plus S k m) (Plus S n j) := Sub.plus_mono hn hj
set_option maxHeartbeats 1000000 in
set_option maxRecDepth 100000 in
theorem with_any (k : Int) (hk : inI k) (a b : Ex) (w : World) (S : Blocks) (Va Vb : Value) (hS : Sub S (Upto w.heap.size)) (ha : RdE w S a Va) (hb : RdE w S b Vb) :
    Calls Try.prog 41 #[.int .i64 k, Va, Vb] w fun e w' => ∃ U, e = .returned U ∧ RdE w' (Plus S w.heap.size w'.heap.size) (mkE k a b) U ∧ Below w.heap.size w w' := by
  have HA := Lib.hid ha
  have HB := Lib.hid hb
  obtain ⟨A1, c1, rfl⟩ := ha.form
  obtain ⟨A2, c2, rfl⟩ := hb.form
  clear ha hb
  go_enter Try.func41, Try.ntmps41
  go_wp2
  have hbel : Below w.heap.size w ((((w.alloc (.cells #[.int .i64 a.kind, .int .i64 a.num, .string a.name, .slice A1 a.args.length c1] 38)).alloc (.cells #[.int .i64 b.kind, .int .i64 b.num, .string b.name, .slice A2 b.args.length c2] 38)).alloc (.cells #[.int .i64 k, .int .i64 0, .string noS, .slice (some ⟨w.heap.size + 1 + 1 + 1, 0, none⟩) 2 2] 38)).alloc (.cells #[.int .i64 a.kind, .int .i64 a.num, .string a.name, .slice A1 a.args.length c1, .int .i64 b.kind, .int .i64 b.num, .string b.name, .slice A2 b.args.length c2] 38)) := ((((Below.refl _ _).alloc (Nat.le_refl _) _).alloc (by simp) _).alloc (by simp; omega) _).alloc (by simp; omega) _
  have hblk := Blk.made (((w.alloc (.cells #[.int .i64 a.kind, .int .i64 a.num, .string a.name, .slice A1 a.args.length c1] 38)).alloc (.cells #[.int .i64 b.kind, .int .i64 b.num, .string b.name, .slice A2 b.args.length c2] 38)).alloc (.cells #[.int .i64 k, .int .i64 0, .string noS, .slice (some ⟨w.heap.size + 1 + 1 + 1, 0, none⟩) 2 2] 38)) [.int .i64 a.kind, .int .i64 a.num, .string a.name, .slice A1 a.args.length c1, .int .i64 b.kind, .int .i64 b.num, .string b.name, .slice A2 b.args.length c2] 38 (base := 0) (Nat.zero_le _)
  simp only [World.size_alloc] at hblk
  refine bodyPost_ret (v := .agg #[.int .i64 k, .int .i64 0, .string noS, .slice (some ⟨w.heap.size + 1 + 1 + 1, 0, none⟩) 2 2]) (by simp [results, Try.results41, go_sem]) rfl ⟨_, rfl, ?_, hbel⟩
  exact RdE.two hk (HA.out.keep (Sub.plus _ _ _) (same_of_below hbel hS)) (HB.out.keep (Sub.plus _ _ _) (same_of_below hbel hS)) (.inr ⟨by omega, by simp⟩) hblk.cell
/-- a closure that hands back what it got -/
def IdC (f : FuncId) : Prop := ∀ (x : Ex) (w : World) (S : Blocks) (V : Value), Sub S (Upto w.heap.size) → RdE w S x V → Calls Try.prog f #[V] w fun e w' => ∃ U, e = .returned U ∧ RdE w' (Plus S w.heap.size w'.heap.size) x U ∧ Below w.heap.size w w'
theorem put1_id : IdC 38 := by
  intro x w S V hS h
  have H := Lib.hid h
  obtain ⟨A1, c1, rfl⟩ := h.form
  clear h
  go_enter Try.func38, Try.ntmps38
  go_wp2
  have hbel : Below w.heap.size w ((w.alloc (.cells #[.int .i64 x.kind, .int .i64 x.num, .string x.name, .slice A1 x.args.length c1] 38)).alloc (.cells #[.int .i64 x.kind, .int .i64 x.num, .string x.name, .slice A1 x.args.length c1] 38)) := ((Below.refl _ _).alloc (Nat.le_refl _) _).alloc (by simp) _
  refine bodyPost_ret (v := .agg #[.int .i64 x.kind, .int .i64 x.num, .string x.name, .slice A1 x.args.length c1]) (by simp [results, Try.results38, go_sem]) rfl ⟨_, rfl, ?_, hbel⟩
  exact H.out.keep (Sub.plus _ _ _) (same_of_below hbel hS)
theorem fold1_id : IdC 44 := by
  intro x w S V hS h
  have H := Lib.hid h
  obtain ⟨A1, c1, rfl⟩ := h.form
  clear h
  go_enter Try.func44, Try.ntmps44
  go_wp2
  have hbel : Below w.heap.size w ((w.alloc (.cells #[.int .i64 x.kind, .int .i64 x.num, .string x.name, .slice A1 x.args.length c1] 38)).alloc (.cells #[.int .i64 x.kind, .int .i64 x.num, .string x.name, .slice A1 x.args.length c1] 38)) := ((Below.refl _ _).alloc (Nat.le_refl _) _).alloc (by simp) _
  refine bodyPost_ret (v := .agg #[.int .i64 x.kind, .int .i64 x.num, .string x.name, .slice A1 x.args.length c1]) (by simp [results, Try.results44, go_sem]) rfl ⟨_, rfl, ?_, hbel⟩
  exact H.out.keep (Sub.plus _ _ _) (same_of_below hbel hS)
theorem wrap64_in' (z : Int) : inI (wrap64 z) := by unfold inI wrap64; omega
theorem doE_inI (k a b : Int) (ha : inI a) (hb : inI b) : inI (doE k a b) := by
  unfold doE
  split; · exact wrap64_in' _
  split; · exact wrap64_in' _
  split; · exact wrap64_in' _
  split; · split <;> decide
  split; · split <;> decide
  split; · decide
  rename_i h0
  split; · exact wrap64_in' _
  split
  · have h1 := ha.1
    have h2 := ha.2
    have h3 := hb.1
    have h4 := hb.2
    have k1 : (a.tmod b).natAbs < b.natAbs := by
      rw [Int.natAbs_tmod]; exact Nat.mod_lt _ (by omega)
    unfold inI; omega
  · decide
set_option maxHeartbeats 1000000 in
set_option maxRecDepth 100000 in
theorem fold2_any (k : Int) (hk : inI k) (a b : Ex) (w : World) (S : Blocks) (Va Vb : Value) (hS : Sub S (Upto w.heap.size)) (ha : RdE w S a Va) (hb : RdE w S b Vb) :
    Calls Try.prog 45 #[.int .i64 k, Va, Vb] w fun e w' => ∃ U, e = .returned U ∧ RdE w' (Plus S w.heap.size w'.heap.size) (foldG doE k a b) U ∧ Below w.heap.size w w' := by
  have HA := Lib.hid ha
  have HB := Lib.hid hb
  obtain ⟨A1, c1, rfl⟩ := ha.form
  obtain ⟨A2, c2, rfl⟩ := hb.form
  have HNA := Lib.hid ha.nums
  have HNB := Lib.hid hb.nums
  have hbel : Below w.heap.size w (((w.alloc (.cells #[.int .i64 a.kind, .int .i64 a.num, .string a.name, .slice A1 a.args.length c1] 38)).alloc (.cells #[.int .i64 b.kind, .int .i64 b.num, .string b.name, .slice A2 b.args.length c2] 38)).alloc (.cells #[.int .i64 0, .int .i64 0, .string noS, .slice none 0 0] 38)) := (((Below.refl _ _).alloc (Nat.le_refl _) _).alloc (by simp) _).alloc (by simp; omega) _
  have HBEL := Lib.hid hbel
  clear ha hb hbel
  by_cases h12 : a.kind = 1 ∧ b.kind = 1
  · have HG := Lib.hid (show foldG doE k a b = numE (doE k a.num b.num) by unfold foldG; rw [if_pos h12])
    have hx := h12.1
    have hy := h12.2
    clear h12
    go_enter Try.func45, Try.ntmps45
    go_wp2_with (go_at_call 46; refine (do_e k a.num b.num HNA.out.2.1 HNB.out.2.1 _).mono ?_; rintro e w1 ⟨rfl, rfl⟩)
    refine bodyPost_ret (v := .agg #[.int .i64 1, .int .i64 (doE k a.num b.num), .string noS, .slice none 0 0]) (by simp [results, Try.results45, go_sem]) rfl ⟨_, rfl, ?_, (((Below.refl _ _).alloc (Nat.le_refl _) _).alloc (by simp) _).alloc (by simp; omega) _⟩
    rw [HG.out]
    exact RdE.leaf _ _ (by decide) (doE_inI _ _ _ HNA.out.2.1 HNB.out.2.1) (by decide)
  · have HG := Lib.hid (show foldG doE k a b = mkE k a b by unfold foldG; rw [if_neg h12])
    have hsu : Sub S (Upto (((w.alloc (.cells #[.int .i64 a.kind, .int .i64 a.num, .string a.name, .slice A1 a.args.length c1] 38)).alloc (.cells #[.int .i64 b.kind, .int .i64 b.num, .string b.name, .slice A2 b.args.length c2] 38)).alloc (.cells #[.int .i64 0, .int .i64 0, .string noS, .slice none 0 0] 38)).heap.size) := hS.trans (Sub.upto HBEL.out.size)
    have HWI := Lib.hid (with_any k hk a b _ S _ _ hsu (HA.out.go HBEL.out hS) (HB.out.go HBEL.out hS))
    have HBK := Lib.hid (Blk.made ((w.alloc (.cells #[.int .i64 a.kind, .int .i64 a.num, .string a.name, .slice A1 a.args.length c1] 38)).alloc (.cells #[.int .i64 b.kind, .int .i64 b.num, .string b.name, .slice A2 b.args.length c2] 38)) [.int .i64 0, .int .i64 0, .string noS, .slice none 0 0] 38 (base := w.heap.size) (by simp; omega))
    have hzz : ((w.alloc (.cells #[.int .i64 a.kind, .int .i64 a.num, .string a.name, .slice A1 a.args.length c1] 38)).alloc (.cells #[.int .i64 b.kind, .int .i64 b.num, .string b.name, .slice A2 b.args.length c2] 38)).heap.size = w.heap.size + 1 + 1 := by simp
    have hsz3 : (((w.alloc (.cells #[.int .i64 a.kind, .int .i64 a.num, .string a.name, .slice A1 a.args.length c1] 38)).alloc (.cells #[.int .i64 b.kind, .int .i64 b.num, .string b.name, .slice A2 b.args.length c2] 38)).alloc (.cells #[.int .i64 0, .int .i64 0, .string noS, .slice none 0 0] 38)).heap.size = w.heap.size + 1 + 1 + 1 := by simp
    have HZ3 := Lib.hid hsz3
    rw [hzz] at HBK
    have HCS := Lib.hid h12
    clear hzz hsz3 h12 hsu
    rcases Classical.em (a.kind = 1) with hx | hx
    case' inl =>
      have hy : (b.kind == 1) = false := (by have := HCS.out; simp; intro h; exact this ⟨hx, h⟩)
      rw [hx] at HWI HBK HZ3 HBEL
    case' inr => have hy : (a.kind == 1) = false := (by simpa using hx); clear hx
    all_goals (
      go_enter Try.func45, Try.ntmps45
      go_wp2_with fail
      refine HWI.out.mono ?_
      rintro e w1 ⟨U, rfl, hU, hb1⟩
      obtain ⟨A3, c3, rfl⟩ := hU.form
      have hbk := HBK.out.below hb1
      have k0 := hbk.cell 0 _ rfl; have k1 := hbk.cell 1 _ rfl; have k2 := hbk.cell 2 _ rfl; have k3 := hbk.cell 3 _ rfl
      have f0 := hbk.fr 0; have f1 := hbk.fr 1; have f2 := hbk.fr 2; have f3 := hbk.fr 3
      have hlt := hbk.lt
      have HB1 := Lib.hid hb1
      have HU := Lib.hid hU
      clear hb1 hbk hU
      go_wp2
      refine bodyPost_ret (v := .agg #[.int .i64 (mkE k a b).kind, .int .i64 (mkE k a b).num, .string (mkE k a b).name, .slice A3 (mkE k a b).args.length c3]) (by simp [results, Try.results45, go_sem, k0, k1, k2, k3]) rfl ⟨_, rfl, ?_, ?_⟩
      · show RdE (set4 w1 (w.heap.size + 1 + 1) _ _ _ _) _ _ _
        rw [HG.out]
        refine HU.out.keep (Sub.plus_mono (by have := HZ3.out; omega) (Nat.le_of_eq (set4_size _ _ _ _ _ _).symm)) (set4_same ?_)
        intro hp
        rcases hp with hp | hp
        · have := hS _ hp; unfold Upto at this; omega
        · have := HZ3.out; omega
      · show Below _ _ (set4 w1 (w.heap.size + 1 + 1) _ _ _ _)
        exact set4_below (HBEL.out.trans (HB1.out.mono HBEL.out.size)) (by omega))
end Go.Proofs.Ythbbecmffndgdaa
