/- A deque in memory; the walks of Len, Pop and Steal. -/
import Derived.Test.YtbpooepbnnbipaaDqSpec
import Derived.BigRegion
import Derived.StillTailTactics
namespace Go.Proofs.Ytbpooepbnnbipaa
open Go.RowKit
set_option linter.unusedVariables false
abbrev vI (x : Int) : Value := .int .i64 x
def RingAt (base : Nat) (w : World) (d : Nat) (X : Blocks) (A : Option Addr) (m : Nat) (r : List Int) : Prop :=
  A = none ∧ m = 0 ∨ ∃ g, A = some ⟨g, 0, none⟩ ∧ 0 < m ∧ g ≠ d ∧ X g ∧ Blk base w g (r.map fun (x : Int) => Value.int .i64 x)
theorem RingAt.but {base : Nat} {w w' : World} {d m : Nat} {X T : Blocks} {A : Option Addr} {r : List Int} (h : RingAt base w d X A m r) (hb : But T w w') (hT : ∀ b, X b → ¬ T b) : RingAt base w' d X A m r := by
  refine h.imp id ?_
  rintro ⟨g, e, hm, hne, hx, hg⟩
  exact ⟨g, e, hm, hne, hx, hg.but hb (hT _ hx)⟩
/-- block d is a deque that holds l; its blocks are X; it never held more than N -/
def DqAt (base : Nat) (w : World) (d : Nat) (X : Blocks) (N : Nat) (l : List Int) : Prop :=
  ∃ (A : Option Addr) (m top : Nat) (r : List Int), Blk base w d [.slice A m m, .int .i64 (top : Int), .int .i64 (l.length : Int)] ∧ Ring r m top l ∧ m ≤ 2 * N + 1 ∧ X d ∧ (∀ b, X b → base ≤ b ∧ b < w.heap.size) ∧
    RingAt base w d X A m r
theorem DqAt.but {base : Nat} {w w' : World} {d N : Nat} {X T : Blocks} {l : List Int} (h : DqAt base w d X N l) (hb : But T w w') (hT : ∀ b, X b → ¬ T b) : DqAt base w' d X N l := by
  obtain ⟨A, m, top, r, h1, h2, h3, h4, h5, h6⟩ := h
  refine ⟨A, m, top, r, h1.but hb (hT _ h4), h2, h3, h4, fun b hx => ⟨(h5 b hx).1, Nat.lt_of_lt_of_le (h5 b hx).2 hb.size⟩, h6.but hb hT⟩
theorem pop_nil {base : Nat} {w : World} {d N : Nat} {X : Blocks} (h : DqAt base w d X N []) :
    Calls Try.prog 63 #[.pointer (some ⟨d, 0, none⟩)] w fun e w' => e = .returned (.tuple #[.int .i64 0, .bool false]) ∧ w = w' := by
  obtain ⟨A, m, top, r, h1, h2, h3, h4, h5, h6⟩ := h
  have c2 := h1.cell 2 _ rfl
  simp only [List.length_nil, Int.natCast_zero] at c2
  clear h6 h5 h4 h3 h2 h1
  go_enter Try.func63, Try.ntmps63
  go_wp2
  go_ret2
  exact ⟨rfl, rfl⟩
theorem steal_nil {base : Nat} {w : World} {d N : Nat} {X : Blocks} (h : DqAt base w d X N []) :
    Calls Try.prog 39 #[.pointer (some ⟨d, 0, none⟩)] w fun e w' => e = .returned (.tuple #[.int .i64 0, .bool false]) ∧ w = w' := by
  obtain ⟨A, m, top, r, h1, h2, h3, h4, h5, h6⟩ := h
  have c2 := h1.cell 2 _ rfl
  simp only [List.length_nil, Int.natCast_zero] at c2
  clear h6 h5 h4 h3 h2 h1
  go_enter Try.func39, Try.ntmps39
  go_wp2
  go_ret2
  exact ⟨rfl, rfl⟩
set_option maxHeartbeats 1000000 in
theorem pop_snoc {base : Nat} {w : World} {d N : Nat} {X : Blocks} {l : List Int} {x : Int} (h : DqAt base w d X N (l ++ [x])) (hN : N ≤ 8796093022208) :
    Calls Try.prog 63 #[.pointer (some ⟨d, 0, none⟩)] w fun e w' => e = .returned (.tuple #[.int .i64 x, .bool true]) ∧ DqAt base w' d X N l ∧ But X w w' := by
  obtain ⟨A, m, top, r, h1, h2, h3, h4, h5, h6⟩ := h
  have hle := h2.le
  simp only [List.length_append, List.length_cons, List.length_nil] at hle
  obtain ⟨g, rfl, hm, hne, hxg, hg⟩ : ∃ g, A = some ⟨g, 0, none⟩ ∧ 0 < m ∧ g ≠ d ∧ X g ∧ Blk base w g (r.map fun (x : Int) => Value.int .i64 x) := by
    rcases h6 with ⟨_, e⟩ | h6
    · omega
    · exact h6
  have ht := h2.top_lt hm
  have hc2 := h1.cell 2 _ rfl
  have hfr := h1.fr 2
  have hl : ((l ++ [x]).length : Int) = (l.length : Int) + 1 := by simp
  rw [hl] at hc2
  have e0 : ((l.length : Int) + 1 == 0) = false := by simp; omega
  have HL := Lib.hid hl
  have H1 := Lib.hid h1
  have H2 := Lib.hid h2
  have HG := Lib.hid hg
  have H5 := Lib.hid h5
  clear hl h1 h2 hg h6 h5
  go_enter Try.func63, Try.ntmps63
  go_upto_region 4 with (fail)
  have K1 := Lib.hid (show Blk base (w.setCell ⟨d, 2, none⟩ (.int .i64 (l.length : Int))) d [.slice (some ⟨g, 0, none⟩) m m, .int .i64 (top : Int), .int .i64 (l.length : Int)] from H1.out.set (i := 2) (by simp) _)
  have K2 := Lib.hid (show Blk base (w.setCell ⟨d, 2, none⟩ (.int .i64 (l.length : Int))) g (r.map fun (x : Int) => Value.int .i64 x) from HG.out.other (p := ⟨d, 2, none⟩) (fun e => hne e.symm) _)
  have K3 : But X w (w.setCell ⟨d, 2, none⟩ (.int .i64 (l.length : Int))) := (But.refl _ _).setCell (p := ⟨d, 2, none⟩) h4 _
  generalize w.setCell ⟨d, 2, none⟩ (.int .i64 (l.length : Int)) = W at *
  clear hc2 hfr H1 HG HL
  have d0 := K1.out.cell 0 _ rfl
  have d1 := K1.out.cell 1 _ rfl
  have d2 := K1.out.cell 2 _ rfl
  have dx := K2.out.mapAt H2.out.last
  have hmm : (m : Int) ≤ 17592186044417 := by omega
  have hm0 : (0 : Int) < (m : Int) := by omega
  have hr : (top + l.length) % m < m := Nat.mod_lt _ hm
  have hr' : ((top : Int) + (l.length : Int)) % (m : Int) < (m : Int) := Int.emod_lt_of_pos _ hm0
  have hr0 : 0 ≤ ((top : Int) + (l.length : Int)) % (m : Int) := Int.emod_nonneg _ (by omega)
  go_quiet (fail)
  go_wp2
  go_ret2
  refine ⟨rfl, ⟨_, m, top, r, K1.out.drewN _, H2.out.pop, h3, h4, fun b hb => ⟨(H5.out b hb).1, Nat.lt_of_lt_of_le (H5.out b hb).2 K3.size⟩, .inr ⟨g, rfl, hm, hne, hxg, K2.out.drewN _⟩⟩, K3.drewN _⟩
set_option maxHeartbeats 1000000 in
theorem steal_cons {base : Nat} {w : World} {d N : Nat} {X : Blocks} {l : List Int} {x : Int} (h : DqAt base w d X N (x :: l)) (hN : N ≤ 8796093022208) :
    Calls Try.prog 39 #[.pointer (some ⟨d, 0, none⟩)] w fun e w' => e = .returned (.tuple #[.int .i64 x, .bool true]) ∧ DqAt base w' d X N l ∧ But X w w' := by
  obtain ⟨A, m, top, r, h1, h2, h3, h4, h5, h6⟩ := h
  have hle := h2.le
  simp only [List.length_cons] at hle
  obtain ⟨g, rfl, hm, hne, hxg, hg⟩ : ∃ g, A = some ⟨g, 0, none⟩ ∧ 0 < m ∧ g ≠ d ∧ X g ∧ Blk base w g (r.map fun (x : Int) => Value.int .i64 x) := by
    rcases h6 with ⟨_, e⟩ | h6
    · omega
    · exact h6
  have ht := h2.top_lt hm
  have hc0 := h1.cell 0 _ rfl
  have hc1 := h1.cell 1 _ rfl
  have hc2 := h1.cell 2 _ rfl
  have hf2 := h1.fr 2
  have hf1 := h1.fr 1
  have hl : ((x :: l).length : Int) = (l.length : Int) + 1 := by simp
  rw [hl] at hc2 h1
  have dx := hg.mapAt h2.first
  have e0 : ((l.length : Int) + 1 == 0) = false := by simp; omega
  have H1 := Lib.hid h1
  have H2 := Lib.hid h2
  have HG := Lib.hid hg
  have H5 := Lib.hid h5
  have hmm : (m : Int) ≤ 17592186044417 := by omega
  have hm0 : (0 : Int) < (m : Int) := by omega
  have ht0 : (0 : Int) ≤ (top : Int) := by omega
  have ht1 : (top : Int) < (m : Int) := by omega
  clear hl h1 h2 hg h6 h5
  go_enter Try.func39, Try.ntmps39
  go_wp2
  go_quiet (fail)
  have K1 := Lib.hid (H1.out.drewN ‹Nat›)
  have K2 := Lib.hid (HG.out.drewN ‹Nat›)
  have K3 : But X w (w.drewN ‹Nat›) := (But.refl _ _).drewN _
  generalize w.drewN ‹Nat› = W at *
  clear hc0 hc1 hc2 hf1 hf2 dx H1 HG
  have hc0 := K1.out.cell 0 _ rfl
  have hc1 := K1.out.cell 1 _ rfl
  have hf1 := K1.out.fr 1
  go_upto_region 4 with (fail)
  go_region
  have L1 := Lib.hid (show Blk base (W.setCell ⟨d, 1, none⟩ (.int .i64 (((top : Int) + 1) % (m : Int)))).drew d [.slice (some ⟨g, 0, none⟩) m m, .int .i64 (((top : Int) + 1) % (m : Int)), .int .i64 ((l.length : Int) + 1)] from (K1.out.set (i := 1) (by simp) _).drew)
  have L2 := Lib.hid (show Blk base (W.setCell ⟨d, 1, none⟩ (.int .i64 (((top : Int) + 1) % (m : Int)))).drew g (r.map fun (x : Int) => Value.int .i64 x) from (K2.out.other (p := ⟨d, 1, none⟩) (fun e => hne e.symm) _).drew)
  have L3 : But X w (W.setCell ⟨d, 1, none⟩ (.int .i64 (((top : Int) + 1) % (m : Int)))).drew := (K3.setCell (p := ⟨d, 1, none⟩) h4 _).drew
  generalize (W.setCell ⟨d, 1, none⟩ (.int .i64 (((top : Int) + 1) % (m : Int)))).drew = W2 at *
  clear hc0 hc1 hf1 K1 K2 K3
  have hc2 := L1.out.cell 2 _ rfl
  have hf2 := L1.out.fr 2
  go_wp2
  go_ret2
  have hi : (((top : Int) + 1) % (m : Int)) = (((top + 1) % m : Nat) : Int) := by rw [Int.natCast_emod, Int.natCast_add]; rfl
  have L4 := L1.out.set (i := 2) (by simp) (.int .i64 (l.length : Int))
  rw [hi] at L4
  refine ⟨rfl, ⟨_, m, (top + 1) % m, r, L4, H2.out.steal, h3, h4, fun b hb => ⟨(H5.out b hb).1, ?_⟩, .inr ⟨g, rfl, hm, hne, hxg, L2.out.other (p := ⟨d, 2, none⟩) (fun e => hne e.symm) _⟩⟩, L3.setCell (p := ⟨d, 2, none⟩) h4 _⟩
  rw [size_setCell]
  exact Nat.lt_of_lt_of_le (H5.out b hb).2 L3.size
end Go.Proofs.Ytbpooepbnnbipaa
