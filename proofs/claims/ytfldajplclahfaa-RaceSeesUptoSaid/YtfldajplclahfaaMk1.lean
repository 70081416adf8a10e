/- The walks of sp.Marks: a visitor that marks. -/
import Derived.Test.YtfldajplclahfaaGVecSpec
import Derived.Test.YtfldajplclahfaaGRdT
import Derived.Test.YtfldajplclahfaaGSp4
namespace Go.Proofs.Ytfldajplclahfaa
open Go.RowKit
set_option linter.unusedVariables false
/-- block d is a marker: it writes into block g -/
def MkAt (base : Nat) (w : World) (d g n next bs : Nat) (L : List (Int × Int)) : Prop :=
  Blk base w d [.int .i64 (next : Int), .slice (some ⟨g, 0, none⟩) n n, .int .i64 (bs : Int)] ∧ RowAt encP 2 base w g L ∧ L.length = n ∧ g ≠ d ∧ n ≤ 1048576
theorem MkAt.but {base : Nat} {w w' : World} {d g n next bs : Nat} {L : List (Int × Int)} {T : Blocks} (h : MkAt base w d g n next bs L) (hb : But T w w') (td : ¬ T d) (tg : ¬ T g) : MkAt base w' d g n next bs L :=
  ⟨h.1.but hb td, h.2.1.but hb tg, h.2.2⟩
theorem MkAt.below {base : Nat} {w w' : World} {d g n next bs : Nat} {L : List (Int × Int)} (h : MkAt base w d g n next bs L) (hb : Below w.heap.size w w') : MkAt base w' d g n next bs L :=
  h.but (T := Nowhere) (But.of_below hb) (fun h => h) (fun h => h)
set_option maxHeartbeats 1000000 in
set_option maxRecDepth 100000 in
theorem mone_any {base : Nat} {w : World} {d g n next bs : Nat} {L : List (Int × Int)} (h : MkAt base w d g n next bs L) (hbs : bs < n) (hnx : next ≤ 1048576) (c : Int) (wr : Bool) (lb : Int) :
    Calls Try.prog 107 #[.pointer (some ⟨d, 0, none⟩), accV c wr lb] w fun e w' => e = .returned (.tuple #[]) ∧ MkAt base w' d g n (next + 1) bs (L.set bs ((bs : Int), (next : Int))) ∧ But (Is2 d g) w w' := by
  obtain ⟨h1, h2, h3, h4, h5⟩ := h
  have bel : Below w.heap.size w (w.alloc (.cells #[.int .i64 c, .bool wr, .int .i64 lb] 23)) := (Below.refl _ _).alloc (Nat.le_refl _) _
  have K1 := Lib.hid (h1.below bel)
  have K2 := Lib.hid (h2.below bel)
  have K3 : But (Is2 d g) w (w.alloc (.cells #[.int .i64 c, .bool wr, .int .i64 lb] 23)) := But.of_below bel
  have hbl : bs < L.length := by omega
  unfold accV
  clear h1 h2 bel
  go_enter Try.func107, Try.ntmps107
  go_upto_region 1 with (fail)
  generalize w.alloc (.cells #[.int .i64 c, .bool wr, .int .i64 lb] 23) = W at *
  have c0 := K1.out.cell 0 _ rfl
  have c1 := K1.out.cell 1 _ rfl
  have c2 := K1.out.cell 2 _ rfl
  have f0 := K1.out.fr 0
  have hx := List.getElem?_eq_getElem hbl
  have g0 := K2.out.cell bs _ hx 0 _ rfl
  have g1 := K2.out.cell bs _ hx 1 _ rfl
  rw [Nat.add_zero] at g0
  have fg0 := K2.out.fr (bs * 2)
  have fg1 := K2.out.fr (bs * 2 + 1)
  have b0 : (bs : Int) < (n : Int) := by omega
  have b1 : (0 : Int) ≤ (bs : Int) := by omega
  have b2 : (next : Int) ≤ 1048576 := by omega
  generalize L[bs] = y at *
  clear hx
  go_region
  have M1 := Lib.hid (show Blk base (((W.setCell ⟨g, bs * 2, none⟩ (.int .i64 (bs : Int))).setCell ⟨g, bs * 2 + 1, none⟩ (.int .i64 (next : Int))).drew) d [.int .i64 (next : Int), .slice (some ⟨g, 0, none⟩) n n, .int .i64 (bs : Int)] from
    ((K1.out.other (p := ⟨g, bs * 2, none⟩) h4 _).other (p := ⟨g, bs * 2 + 1, none⟩) h4 _).drew)
  have M2 := Lib.hid (show RowAt encP 2 base (((W.setCell ⟨g, bs * 2, none⟩ (.int .i64 (bs : Int))).setCell ⟨g, bs * 2 + 1, none⟩ (.int .i64 (next : Int))).drew) g (L.set bs ((bs : Int), (next : Int))) from
    (K2.out.set2 hbl ((bs : Int), (next : Int)) rfl encP_len).drew)
  have M3 : But (Is2 d g) w (((W.setCell ⟨g, bs * 2, none⟩ (.int .i64 (bs : Int))).setCell ⟨g, bs * 2 + 1, none⟩ (.int .i64 (next : Int))).drew) := ((K3.setCell (p := ⟨g, bs * 2, none⟩) (.inr rfl) _).setCell (p := ⟨g, bs * 2 + 1, none⟩) (.inr rfl) _).drew
  generalize ((W.setCell ⟨g, bs * 2, none⟩ (.int .i64 (bs : Int))).setCell ⟨g, bs * 2 + 1, none⟩ (.int .i64 (next : Int))).drew = W2 at *
  clear c0 c1 c2 f0 g0 g1 fg0 fg1 K1 K2 K3
  have d0 := M1.out.cell 0 _ rfl
  have f0 := M1.out.fr 0
  go_wp2
  go_end0
  refine ⟨rfl, ⟨?_, M2.out.other (p := ⟨d, 0, none⟩) (fun e => h4 e.symm) _, by simpa using h3, h4, h5⟩, M3.setCell (p := ⟨d, 0, none⟩) (.inl rfl) _⟩
  have := M1.out.set (i := 0) (by simp) (.int .i64 ((next : Int) + 1))
  simpa using this
abbrev mkI (d : Nat) : Value := .iface 76 (.pointer (some ⟨d, 0, none⟩))
theorem mnothing_any (d : Nat) (w : World) : Calls Try.prog 106 #[.pointer (some ⟨d, 0, none⟩)] w fun e w' => e = .returned (.tuple #[]) ∧ w = w' := by
  go_enter Try.func106, Try.ntmps106
  go_wp2
  go_end0
  exact ⟨rfl, rfl⟩
theorem m_mone (a : Addr) (w : World) : (method 244 76 (.pointer (some a)) "forkwright/sp.one").run Try.prog w = .ok (107, .pointer (some a)) w := by kernel_rfl
theorem m_mno (a : Addr) (w : World) : (method 244 76 (.pointer (some a)) "forkwright/sp.nothing").run Try.prog w = .ok (106, .pointer (some a)) w := by kernel_rfl
theorem m_mtwo (a : Addr) (w : World) : (method 244 76 (.pointer (some a)) "forkwright/sp.two").run Try.prog w = .ok (108, .pointer (some a)) w := by kernel_rfl
theorem n_mtwo (a : Addr) (w : World) : (nilAhead 244 76 (.pointer (some a)) "forkwright/sp.two").run Try.prog w = .ok (some false) w := by kernel_rfl
/-- tell writes the places of the leaves of t -/
def MTells (t : Tm) : Prop := ∀ (base : Nat) (w : World) (d g n next bs : Nat) (L : List (Int × Int)) (S : Blocks) (V : Value), MkAt base w d g n next bs L → bs + t.count ≤ n → next + t.count ≤ 1048576 → RdT w S t V → Sub S (Upto base) →
  Calls Try.prog 44 #[V, mkI d] w fun e w' => e = .returned (.tuple #[]) ∧ ∃ bs', MkAt base w' d g n (next + t.count) bs' (mkOut L bs (t.pos next)) ∧ But (Is2 d g) w w'
set_option maxHeartbeats 1000000 in
set_option maxRecDepth 100000 in
theorem mtells_one (t : Tm) (ht : t.two = none) : MTells t := by
  intro base w d g n next bs L S V h hl hnx r hS
  obtain ⟨k, c, wr, lb, kids, v, rfl, rfl, hk, hc, hlb, hkids⟩ := r
  have HP := Lib.hid (Tm.pos_none ht next)
  have HC := Lib.hid (Tm.count_none ht)
  have h3 := h.2.2.1
  by_cases h1 : k = 1
  · subst h1
    obtain ⟨A, cap, rfl, _, _, _⟩ := hkids.form
    have HP2 := Lib.hid (show (Tm.mk 1 c wr lb kids).pos next = [next] by rw [HP.out, if_pos (by simp [Tm.kind])])
    have HC2 := Lib.hid (show (Tm.mk 1 c wr lb kids).count = 1 by rw [HC.out, if_pos (by simp [Tm.kind])])
    have hm := m_mone ⟨d, 0, none⟩
    have bel : Below w.heap.size w (w.alloc (.cells #[.int .i64 1, .int .i64 c, .bool wr, .int .i64 lb, .slice A kids.length cap] 26)) := (Below.refl _ _).alloc (Nat.le_refl _) _
    have H2 := Lib.hid (h.below bel)
    rw [HC2.out] at hl hnx
    have BEL := Lib.hid bel
    have hbn : bs < n := by omega
    have hnx2 : next ≤ 1048576 := by omega
    unfold tmV mkI
    clear hkids h bel ht hl
    go_enter Try.func44, Try.ntmps44
    go_wp2_with fail
    refine (mone_any H2.out hbn hnx2 c wr lb).mono ?_
    rintro e w' ⟨rfl, hr, hb⟩
    go_wp2
    go_end0
    rw [HP2.out, HC2.out, mkOut_one (by omega)]
    exact ⟨rfl, bs, hr, (But.of_below BEL.out).trans hb⟩
  · have HP2 := Lib.hid (show (Tm.mk k c wr lb kids).pos next = [] by rw [HP.out, if_neg (by simpa [Tm.kind] using h1)])
    have HC2 := Lib.hid (show (Tm.mk k c wr lb kids).count = 0 by rw [HC.out, if_neg (by simpa [Tm.kind] using h1)])
    have hm := m_mno ⟨d, 0, none⟩
    obtain ⟨A, cap, rfl, hc1, hc2, hc3⟩ := hkids.form
    have hn := Tm.two_none ht
    simp only [Tm.kind, Tm.kids] at hn
    have e1 : (k == 1) = false := by simpa using h1
    have H0 := Lib.hid h
    unfold maxLen at hc2
    unfold tmV mkI
    clear hkids h ht HP HC h1 hk hl
    have fin : ∀ (W : World), Below w.heap.size w W → Hid (∃ bs', MkAt base W d g n (next + (Tm.mk k c wr lb kids).count) bs' (mkOut L bs ((Tm.mk k c wr lb kids).pos next)) ∧ But (Is2 d g) w W) := fun W hb => Lib.hid (by
      rw [HP2.out, HC2.out, mkOut_nil]
      exact ⟨bs, H0.out.below hb, But.of_below hb⟩)
    have FIN := Lib.hid fin
    clear fin
    by_cases h2 : k = 2
    · subst h2
      have hk2 : kids.length < 2 := by omega
      clear hn
      go_enter Try.func44, Try.ntmps44
      go_wp2_with fail
      refine (mnothing_any d _).mono ?_
      rintro e w' ⟨rfl, rfl⟩
      go_wp2
      go_end0
      exact ⟨rfl, (FIN.out _ ((Below.refl _ _).alloc (Nat.le_refl _) _)).out⟩
    · by_cases h3 : k = 3
      · subst h3
        have hk2 : kids.length < 2 := by omega
        clear hn
        go_enter Try.func44, Try.ntmps44
        go_wp2_with fail
        refine (mnothing_any d _).mono ?_
        rintro e w' ⟨rfl, rfl⟩
        go_wp2
        go_end0
        exact ⟨rfl, (FIN.out _ ((Below.refl _ _).alloc (Nat.le_refl _) _)).out⟩
      · have e2 : (k == 2) = false := by simpa using h2
        have e3 : (k == 3) = false := by simpa using h3
        clear hn h2 h3
        go_enter Try.func44, Try.ntmps44
        go_wp2_with fail
        refine (mnothing_any d _).mono ?_
        rintro e w' ⟨rfl, rfl⟩
        go_wp2
        go_end0
        exact ⟨rfl, (FIN.out _ ((Below.refl _ _).alloc (Nat.le_refl _) _)).out⟩
end Go.Proofs.Ytfldajplclahfaa
