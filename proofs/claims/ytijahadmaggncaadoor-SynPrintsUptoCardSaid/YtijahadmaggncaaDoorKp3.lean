/- The walks of the reference's kblock and kstmts. -/
import Derived.Test.YtijahadmaggncaaDoorKp2
import Derived.Test.YtijahadmaggncaaDoorPb7
namespace Go.Proofs.YtijahadmaggncaaDoor
open Go.RowKit
set_option linter.unusedVariables false
/-- what is handed back of a part: the words where all is well -/
def KOut (w w' : World) (T : Tks) (m : Nat) (e : Ending) : Prop := ∃ x out, e = .returned (.tuple #[x, .bool T.2]) ∧ OwnT w' w.heap.size out x ∧ Below w.heap.size w w' ∧ tsz out ≤ m ∧ (T.2 = true → out = T.1)
def KxL (l : List St) : Prop := ∀ (w : World) (S : Blocks) (V : Value), Sub S (Upto w.heap.size) → RdSts w S l V → PowT w → St.wts l ≤ 1048576 →
  Calls Tryd.prog 20 #[V] w fun e w' => KOut w w' (tkL true l) (64 * St.wts l) e
def KxS (k : Int) (s : Str) (a b : Ex) (body els : List St) : Prop := ∀ (w : World) (S : Blocks) (k1 n1 : Int) (s1 : ByteArray) (A1 : Option Addr) (m1 p1 : Nat) (k2 n2 : Int) (s2 : ByteArray) (A2 : Option Addr) (m2 p2 : Nat) (A3 : Option Addr) (p3 : Nat) (A4 : Option Addr) (p4 : Nat), Sub S (Upto w.heap.size) → inI k → okS s →
  RdE w S a (exV k1 n1 s1 (.slice A1 m1 p1)) → RdE w S b (exV k2 n2 s2 (.slice A2 m2 p2)) → RdSts w S body (.slice A3 body.length p3) → RdSts w S els (.slice A4 els.length p4) → PowT w → (St.mk k s a b body els).wt ≤ 1048576 →
  Calls Tryd.prog 39 #[.agg #[.int .i64 k, .string s, .int .i64 k1, .int .i64 n1, .string s1, .slice A1 m1 p1, .int .i64 k2, .int .i64 n2, .string s2, .slice A2 m2 p2, .slice A3 body.length p3, .slice A4 els.length p4]] w fun e w' => KOut w w' (tkS true (.mk k s a b body els)) (64 * (St.mk k s a b body els).wt) e
set_option maxHeartbeats 2000000 in
set_option maxRecDepth 100000 in
theorem kblock_any (l : List St) (hl : KxL l) (w : World) (S : Blocks) (V : Value) (hS : Sub S (Upto w.heap.size)) (r : RdSts w S l V) (hF : PowT w) (hwt : St.wts l ≤ 1048576) :
    Calls Tryd.prog 70 #[V] w fun e w' => KOut w w' (tblk (tkL true l)) (64 * St.wts l + 4) e := by
  obtain ⟨i0, hi, hz0, hz1, hz2⟩ := info_parts infoStr
  have HC := Lib.hid (hl w S V hS r hF hwt)
  clear hl r hF hS
  go_enter Tryd.func70, Tryd.ntmps70
  go_wp2_with (go_at_call 20; refine (calls_hid HC.out).mono ?_)
  rintro e w1 hh
  obtain ⟨x, out, rfl, o1, b1, t1, q1⟩ := hh.out
  clear hh HC
  obtain ⟨Ax, cx, rfl⟩ := o1.form
  have hlen := tsz_len out
  have hz1' := b1.size
  have b2 : Below w1.heap.size w1 (w1.alloc (.cells #[.string ⟨#[123]⟩] 9)) := (Below.refl _ _).alloc (Nat.le_refl _) _
  have OL := Lib.hid (show OwnT (w1.alloc (.cells #[.string ⟨#[123]⟩] 9)) w.heap.size [bs [123]] (.slice (some ⟨w1.heap.size, 0, none⟩) 1 1) from OwnT.lit1 (bs [123]) (by unfold okS; decide) hz1')
  have R1 := Lib.hid (OwnT.rd (show OwnT (w1.alloc (.cells #[.string ⟨#[123]⟩] 9)) w.heap.size out _ from o1.keep Flat.keeps b2) (by omega))
  have B2 := Lib.hid (b1.trans (b2.mono hz1'))
  have hz2' := B2.out.size
  have T1' := Lib.hid t1
  have Q1 := Lib.hid q1
  clear o1 b1 b2 t1 q1
  go_wp2_with (at_builtin; generalize (w1.alloc (.cells #[.string ⟨#[123]⟩] 9)) = W2 at *; refine wpList_append_list rfl _ _ 50 rfl i0 _ Tryd.underlying50 hi hz0 hz1 hz2 rfl (by decide) Flat.keeps OL.out (R1.out.bare Nowhere) rfl rfl (Sub.nowhere _) (Sub.nowhere _) not_nowhere oneS ?c3 ?c4 ?c5 ?_)
  case c3 => simp only [List.length_cons, List.length_nil]; unfold maxLen; have := T1'.out; omega
  case c4 => simp only [List.length_cons, List.length_nil]; have := T1'.out; omega
  try (case c5 => exact hz2')
  intro v3 w3 ho hg hk
  obtain ⟨A3, c3, rfl⟩ := ho.form
  have O3 := Lib.hid (show OwnT w3 w.heap.size ([bs [123]] ++ out) _ from ho)
  have B3 := Lib.hid (B2.out.grown hg hz2' (fun j hj => (OL.out.lt j hj).1))
  have hz3 := B3.out.size
  clear ho hg hk hz2' B2 OL R1
  have b4 : Below w3.heap.size w3 (w3.alloc (.cells #[.string ⟨#[125]⟩] 9)) := (Below.refl _ _).alloc (Nat.le_refl _) _
  have O4 := Lib.hid (show OwnT (w3.alloc (.cells #[.string ⟨#[125]⟩] 9)) w.heap.size ([bs [123]] ++ out) _ from O3.out.keep Flat.keeps b4)
  have R4 := Lib.hid (show RdSs (w3.alloc (.cells #[.string ⟨#[125]⟩] 9)) (fun _ => True) [bs [125]] (.slice (some ⟨w3.heap.size, 0, none⟩) 1 1) from rd_lit (bs [125]) (by unfold okS; decide))
  have B4 := Lib.hid (B3.out.trans (b4.mono hz3))
  have hz4 := B4.out.size
  clear b4 B3 O3
  go_wp2_with (at_builtin; generalize (w3.alloc (.cells #[.string ⟨#[125]⟩] 9)) = W4 at *; refine wpList_append_list rfl _ _ 50 rfl i0 _ Tryd.underlying50 hi hz0 hz1 hz2 rfl (by decide) Flat.keeps O4.out (R4.out.bare Nowhere) rfl rfl (Sub.nowhere _) (Sub.nowhere _) not_nowhere oneS ?c3 ?c4 ?c5 ?_)
  case c3 => simp only [List.length_append, List.length_cons, List.length_nil]; unfold maxLen; have := T1'.out; omega
  case c4 => simp only [List.length_append, List.length_cons, List.length_nil]; have := T1'.out; omega
  try (case c5 => exact hz4)
  intro v5 w5 ho hg hk
  obtain ⟨A5, c5, rfl⟩ := ho.form
  have O5 := Lib.hid (show OwnT w5 w.heap.size ([bs [123]] ++ out ++ [bs [125]]) _ from ho)
  have B5 := Lib.hid (B4.out.grown hg hz4 (fun j hj => own_lt O4.out hj))
  clear ho hg hk hz4 B4 O4 R4
  obtain ⟨ok, hok⟩ : ∃ ok, ok = (tkL true l).2 := ⟨_, rfl⟩
  have HOK := Lib.hid hok
  rw [← hok]
  clear hok
  go_wp2
  go_ret2
  refine ⟨_, _, by rw [show (tblk (tkL true l)).2 = ok by rw [HOK.out]; show ((true && (tkL true l).2) && true) = _; rw [Bool.true_and, Bool.and_true]]; rfl, O5.out, B5.out, ?_, ?_⟩
  · rw [tsz_app, tsz_app]
    have h7 : tsz [bs [123]] = 2 := by decide
    have h8 : tsz [bs [125]] = 2 := by decide
    have := T1'.out
    omega
  · intro h
    have h2 : (tkL true l).2 = true := by
      have h3 : ((true && (tkL true l).2) && true) = true := h
      rwa [Bool.true_and, Bool.and_true] at h3
    rw [Q1.out h2]
    rfl
end Go.Proofs.YtijahadmaggncaaDoor
