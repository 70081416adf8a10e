/- Texts merged: RowAt, PairRow, Mk1. -/
import Derived.Test.YtfldajplclahfaaGMapO
import Derived.Test.YtfldajplclahfaaFlat
import Derived.Test.YtfldajplclahfaaGRcSpec
import Derived.Test.YtfldajplclahfaaGVecSpec
/- A row of the call's own, of elements of some cells each, known element by element. -/
namespace Go.Proofs.Ytfldajplclahfaa
open Go.RowKit
set_option linter.unusedVariables false
/-- block g, from base on, holds the elements of L, and may be written -/
structure RowAt {α : Type} (enc : α → List Value) (size : Nat) (base : Nat) (w : World) (g : Nat) (L : List α) : Prop where
  ge : base ≤ g
  lt : g < w.heap.size
  cell : ∀ (i : Nat) x, L[i]? = some x → ∀ (j : Nat) v, (enc x)[j]? = some v → w.cell? ⟨g, i * size + j, none⟩ = some v
  fr : ∀ o, w.frozen? ⟨g, o, none⟩ = false
/-- 'make([]T, n)', T of some cells -/
theorem run_makeN {P : Program} (t e : TypeId) (i : TypeInfo) (z : Value) {zc : Array Value} {size : Nat} (ht : P.underlying t = some (.slice e)) (hi : P.info? e = some i) (hz : i.zero = some z) (hs : i.size = size) (hc : z.cells = zc)
    (n : Nat) (hbytes : i.bytes * n ≤ 281474976710656) (h63 : n ≤ 9223372036854775807) (w : World) :
    (Instr.makeSlice t (.int .i64 (n : Int)) (.int .i64 (n : Int))).run P w = .ok (.slice (some ⟨w.heap.size, 0, none⟩) n n) (w.alloc (.cells (madeCells zc (n * size)) e)) := by
  have hb : (i.bytes : Int) * (n : Int) ≤ 281474976710656 := by
    have h : ((i.bytes * n : Nat) : Int) ≤ 281474976710656 := by omega
    rwa [Int.natCast_mul] at h
  have hr := run_make (P := P) w t e i z ht hi hz .i64 .i64 n n (by omega) (by omega) hb (by omega)
  simp only [Int.toNat_natCast, hs, hc] at hr
  exact hr
section
variable {α : Type} {enc : α → List Value} {size base : Nat} {w w' : World} {g : Nat} {L : List α}
theorem RowAt.but {T : Blocks} (r : RowAt enc size base w g L) (h : But T w w') (ht : ¬ T g) : RowAt enc size base w' g L :=
  ⟨r.ge, Nat.lt_of_lt_of_le r.lt h.size, fun i x hi j v hv => h.cell ht (r.cell i x hi j v hv), fun o => (frozen_of_block (h.block _ r.lt ht)).trans (r.fr o)⟩
theorem RowAt.below (r : RowAt enc size base w g L) (h : Below w.heap.size w w') : RowAt enc size base w' g L := r.but (T := Nowhere) (But.of_below h) (fun h => h)
theorem RowAt.drewN (r : RowAt enc size base w g L) (n : Nat) : RowAt enc size base (w.drewN n) g L := ⟨r.ge, r.lt, r.cell, r.fr⟩
theorem RowAt.drew (r : RowAt enc size base w g L) : RowAt enc size base w.drew g L := ⟨r.ge, r.lt, r.cell, r.fr⟩
theorem RowAt.rebase (r : RowAt enc size base w g L) {base' : Nat} (h : base' ≤ base) : RowAt enc size base' w g L := ⟨Nat.le_trans h r.ge, r.lt, r.cell, r.fr⟩
theorem RowAt.other (r : RowAt enc size base w g L) {p : Addr} (hp : p.block ≠ g) (x : Value) : RowAt enc size base (w.setCell p x) g L := by
  refine ⟨r.ge, by rw [size_setCell]; exact r.lt, fun i y hi j v hv => ?_, fun o => by rw [World.frozen?_setCell]; exact r.fr o⟩
  rw [World.cell?_setCell_other _ _ _ _ (fun h => hp (by rw [h]))]
  exact r.cell i y hi j v hv
/-- one cell of an element -/
theorem RowAt.at_ (r : RowAt enc size base w g L) {i : Nat} {x : α} (hi : L[i]? = some x) (j : Nat) {v : Value} (hv : (enc x)[j]? = some v) : w.cell? ⟨g, i * size + j, none⟩ = some v := r.cell i x hi j v hv
theorem mul_eq_two {i k j j' : Nat} (hj : j < 2) (hj' : j' < 2) (h : i * 2 + j = k * 2 + j') : i = k ∧ j = j' := by omega
theorem RowAt.set2 (r : RowAt enc 2 base w g L) {i : Nat} (hi : i < L.length) (x : α) {v0 v1 : Value} (hx : enc x = [v0, v1]) (he : ∀ y, (enc y).length = 2) :
    RowAt enc 2 base ((w.setCell ⟨g, i * 2, none⟩ v0).setCell ⟨g, i * 2 + 1, none⟩ v1) g (L.set i x) := by
  have hold : ∀ j, j < 2 → (w.cell? ⟨g, i * 2 + j, none⟩).isSome = true := fun j hj => by
    have := r.cell i L[i] (List.getElem?_eq_getElem hi) j ((enc L[i])[j]'(by rw [he]; exact hj)) (List.getElem?_eq_getElem (by rw [he]; exact hj))
    rw [this]; rfl
  refine ⟨r.ge, by rw [size_setCell, size_setCell]; exact r.lt, fun k y hk j v hv => ?_, fun o => by rw [World.frozen?_setCell, World.frozen?_setCell]; exact r.fr o⟩
  have hj : j < 2 := by have := (List.getElem?_eq_some_iff.1 hv).1; rw [he] at this; exact this
  rw [List.getElem?_set] at hk
  by_cases e : i = k
  · subst e
    rw [if_pos rfl, if_pos hi] at hk
    injection hk with hk; subst hk
    rw [hx] at hv
    match j, hj, hv with
    | 0, _, hv =>
      simp at hv; subst hv
      rw [World.cell?_setCell_other _ _ _ _ (fun h => by injection h with _ h; omega)]
      exact World.cell?_setCell_same' _ _ _ (hold 0 (by omega))
    | 1, _, hv =>
      simp at hv; subst hv
      refine World.cell?_setCell_same' _ _ _ ?_
      rw [World.cell?_setCell_other _ _ _ _ (fun h => by injection h with _ h; omega)]
      exact hold 1 (by omega)
  · rw [if_neg e] at hk
    rw [World.cell?_setCell_other _ _ _ _ (fun h => by injection h with _ h; omega), World.cell?_setCell_other _ _ _ _ (fun h => by injection h with _ h; omega)]
    exact r.cell k y hk j v hv
/-- as a list that is read -/
theorem RowAt.toRd {ok : α → Prop} {bytes c : Nat} {S : Blocks} (r : RowAt enc size base w g L) (he : ∀ y, (enc y).length = size) (hok : ∀ y ∈ L, ok y) (hS : S g) (hc : L.length ≤ c) (hcm : c ≤ maxLen) (hb : L.length * bytes ≤ 140737488355328) :
    RdL (Flat enc ok) size bytes w S L (.slice (some ⟨g, 0, none⟩) L.length c) :=
  ⟨_, c, L.map enc, rfl, hc, hcm, hb, by simp, ⟨fun cs hcs => by obtain ⟨y, _, rfl⟩ := List.mem_map.1 hcs; exact he y, fun _ => ⟨g, 0, rfl, hS, fun i cs hi j v hv => by
    rw [List.getElem?_map] at hi
    obtain ⟨y, hy, rfl⟩ := Option.map_eq_some_iff.1 hi
    rw [Nat.zero_add]
    exact r.cell i y hy j v hv⟩⟩, fun i e cs hi hc => by
    rw [List.getElem?_map, hi] at hc
    simp at hc; subst hc
    exact ⟨rfl, hok e (List.mem_of_getElem? hi)⟩⟩
/-- a row that was just made -/
theorem RowAt.made (w : World) (n : Nat) (x : α) (E : TypeId) {z : Array Value} (hz : enc x = z.toList) (hs : z.size = size) (hpos : 0 < size) (hb : base ≤ w.heap.size) :
    RowAt enc size base (w.alloc (.cells (madeCells z (n * size)) E)) w.heap.size (List.replicate n x) := by
  have h := heap_alloc_new w (.cells (madeCells z (n * size)) E)
  refine ⟨hb, by simp, fun i y hi j v hv => ?_, fun o => ?_⟩
  · rw [List.getElem?_replicate] at hi
    split at hi
    · rename_i hin
      injection hi with hi; subst hi
      rw [hz] at hv
      have hj : j < z.size := by simpa using (List.getElem?_eq_some_iff.1 hv).1
      have hv' : z[j] = v := by simpa using (List.getElem?_eq_some_iff.1 hv).2
      unfold World.cell?
      simp only [h]
      have hlt : i * size + j < n * size := by
        have : i * size + size ≤ n * size := by rw [← Nat.succ_mul]; exact Nat.mul_le_mul_right _ hin
        omega
      have hmod : (i * size + j) % z.size = j := by
        rw [hs, Nat.mul_comm, Nat.mul_add_mod]; exact Nat.mod_eq_of_lt (by omega)
      have : (madeCells z (n * size))[i * size + j]? = some v := by
        unfold madeCells
        rw [Array.getElem?_map]
        have : (Array.range (n * size))[i * size + j]? = some (i * size + j) := by simp [hlt]
        rw [this]
        simp only [Option.map_some, hmod]
        rw [getElem!_pos z j hj, hv']
      simpa using this
    · cases hi
  · unfold World.frozen?
    simp only [h]
    simp
end
end Go.Proofs.Ytfldajplclahfaa
/- Rows of pairs of integers. -/
namespace Go.Proofs.Ytfldajplclahfaa
open Go.RowKit
set_option linter.unusedVariables false
def encP (x : Int × Int) : List Value := [.int .i64 x.1, .int .i64 x.2]
def okPr (x : Int × Int) : Prop := inI x.1 ∧ inI x.2
abbrev RdP := RdL (Flat encP okPr) 2 16
abbrev OwnP := OwnL (Flat encP okPr) 2
theorem RdP.at1 {w : World} {S : Blocks} {l : List (Int × Int)} {A : Option Addr} {n cap : Nat} (h : RdP w S l (.slice A n cap)) {q : Nat} (hq : q < l.length) :
    ∃ b off, A = some ⟨b, off, none⟩ ∧ S b ∧ okPr l[q] ∧ w.cell? ⟨b, off + q * 2, none⟩ = some (.int .i64 l[q].1) ∧ w.cell? ⟨b, off + q * 2 + 1, none⟩ = some (.int .i64 l[q].2) := by
  obtain ⟨b, off, hA, hb, hok, hc⟩ := RdL.flat h hq
  exact ⟨b, off, hA, hb, hok, hc 0 _ rfl, by rw [Nat.add_assoc]; exact hc 1 _ rfl⟩
theorem encP_len (y : Int × Int) : (encP y).length = 2 := rfl
end Go.Proofs.Ytfldajplclahfaa
/- The walks of sp.Marks: a visitor that marks. -/
namespace Go.Proofs.Ytfldajplclahfaa
open Go.RowKit
set_option linter.unusedVariables false
/-- block d is a marker: it writes into block g -/
def MkAt (base : Nat) (w : World) (d g n next bs : Nat) (L : List (Int × Int)) : Prop :=
  Blk base w d [.int .i64 (next : Int), .slice (some ⟨g, 0, none⟩) n n, .int .i64 (bs : Int)] ∧ RowAt encP 2 base w g L ∧ L.length = n ∧ g ≠ d ∧ n ≤ 1048576
theorem MkAt.but {base : Nat} {w w' : World} {d g n next bs : Nat} {L : List (Int × Int)} {T : Blocks} (h : MkAt base w d g n next bs L) (hb : But T w w') (td : ¬ T d) (tg : ¬ T g) : MkAt base w' d g n next bs L :=
  ⟨h.1.but hb td, h.2.1.but hb tg, h.2.2⟩
theorem MkAt.below {base : Nat} {w w' : World} {d g n next bs : Nat} {L : List (Int × Int)} (h : MkAt base w d g n next bs L) (hb : Below w.heap.size w w') : MkAt base w' d g n next bs L :=
  h.but (T := Nowhere) (But.of_below hb) (fun h => h) (fun h => h)
set_option maxHeartbeats 1000000 in
set_option maxRecDepth 100000 in
theorem mone_any {base : Nat} {w : World} {d g n next bs : Nat} {L : List (Int × Int)} (h : MkAt base w d g n next bs L) (hbs : bs < n) (hnx : next ≤ 1048576) (c : Int) (wr : Bool) (lb : Int) :
    Calls Try.prog 107 #[.pointer (some ⟨d, 0, none⟩), accV c wr lb] w fun e w' => e = .returned (.tuple #[]) ∧ MkAt base w' d g n (next + 1) bs (L.set bs ((bs : Int), (next : Int))) ∧ But (Is2 d g) w w' := by
  obtain ⟨h1, h2, h3, h4, h5⟩ := h
  have bel : Below w.heap.size w (w.alloc (.cells #[.int .i64 c, .bool wr, .int .i64 lb] 23)) := (Below.refl _ _).alloc (Nat.le_refl _) _
  have K1 := Lib.hid (h1.below bel)
  have K2 := Lib.hid (h2.below bel)
  have K3 : But (Is2 d g) w (w.alloc (.cells #[.int .i64 c, .bool wr, .int .i64 lb] 23)) := But.of_below bel
  have hbl : bs < L.length := by omega
  unfold accV
  clear h1 h2 bel
  go_enter Try.func107, Try.ntmps107
  go_upto_region 1 with (fail)
  generalize w.alloc (.cells #[.int .i64 c, .bool wr, .int .i64 lb] 23) = W at *
  have c0 := K1.out.cell 0 _ rfl
  have c1 := K1.out.cell 1 _ rfl
  have c2 := K1.out.cell 2 _ rfl
  have f0 := K1.out.fr 0
  have hx := List.getElem?_eq_getElem hbl
  have g0 := K2.out.cell bs _ hx 0 _ rfl
  have g1 := K2.out.cell bs _ hx 1 _ rfl
  rw [Nat.add_zero] at g0
  have fg0 := K2.out.fr (bs * 2)
  have fg1 := K2.out.fr (bs * 2 + 1)
  have b0 : (bs : Int) < (n : Int) := by omega
  have b1 : (0 : Int) ≤ (bs : Int) := by omega
  have b2 : (next : Int) ≤ 1048576 := by omega
  generalize L[bs] = y at *
  clear hx
  go_region
  have M1 := Lib.hid (show Blk base (((W.setCell ⟨g, bs * 2, none⟩ (.int .i64 (bs : Int))).setCell ⟨g, bs * 2 + 1, none⟩ (.int .i64 (next : Int))).drew) d [.int .i64 (next : Int), .slice (some ⟨g, 0, none⟩) n n, .int .i64 (bs : Int)] from
    ((K1.out.other (p := ⟨g, bs * 2, none⟩) h4 _).other (p := ⟨g, bs * 2 + 1, none⟩) h4 _).drew)
  have M2 := Lib.hid (show RowAt encP 2 base (((W.setCell ⟨g, bs * 2, none⟩ (.int .i64 (bs : Int))).setCell ⟨g, bs * 2 + 1, none⟩ (.int .i64 (next : Int))).drew) g (L.set bs ((bs : Int), (next : Int))) from
    (K2.out.set2 hbl ((bs : Int), (next : Int)) rfl encP_len).drew)
  have M3 : But (Is2 d g) w (((W.setCell ⟨g, bs * 2, none⟩ (.int .i64 (bs : Int))).setCell ⟨g, bs * 2 + 1, none⟩ (.int .i64 (next : Int))).drew) := ((K3.setCell (p := ⟨g, bs * 2, none⟩) (.inr rfl) _).setCell (p := ⟨g, bs * 2 + 1, none⟩) (.inr rfl) _).drew
  generalize ((W.setCell ⟨g, bs * 2, none⟩ (.int .i64 (bs : Int))).setCell ⟨g, bs * 2 + 1, none⟩ (.int .i64 (next : Int))).drew = W2 at *
  clear c0 c1 c2 f0 g0 g1 fg0 fg1 K1 K2 K3
  have d0 := M1.out.cell 0 _ rfl
  have f0 := M1.out.fr 0
  go_wp2
  go_end0
  refine ⟨rfl, ⟨?_, M2.out.other (p := ⟨d, 0, none⟩) (fun e => h4 e.symm) _, by simpa using h3, h4, h5⟩, M3.setCell (p := ⟨d, 0, none⟩) (.inl rfl) _⟩
  have := M1.out.set (i := 0) (by simp) (.int .i64 ((next : Int) + 1))
  simpa using this
abbrev mkI (d : Nat) : Value := .iface 76 (.pointer (some ⟨d, 0, none⟩))
theorem mnothing_any (d : Nat) (w : World) : Calls Try.prog 106 #[.pointer (some ⟨d, 0, none⟩)] w fun e w' => e = .returned (.tuple #[]) ∧ w = w' := by
  go_enter Try.func106, Try.ntmps106
  go_wp2
  go_end0
  exact ⟨rfl, rfl⟩
theorem m_mone (a : Addr) (w : World) : (method 244 76 (.pointer (some a)) "forkwright/sp.one").run Try.prog w = .ok (107, .pointer (some a)) w := by kernel_rfl
theorem m_mno (a : Addr) (w : World) : (method 244 76 (.pointer (some a)) "forkwright/sp.nothing").run Try.prog w = .ok (106, .pointer (some a)) w := by kernel_rfl
theorem m_mtwo (a : Addr) (w : World) : (method 244 76 (.pointer (some a)) "forkwright/sp.two").run Try.prog w = .ok (108, .pointer (some a)) w := by kernel_rfl
theorem n_mtwo (a : Addr) (w : World) : (nilAhead 244 76 (.pointer (some a)) "forkwright/sp.two").run Try.prog w = .ok (some false) w := by kernel_rfl
/-- tell writes the places of the leaves of t -/
def MTells (t : Tm) : Prop := ∀ (base : Nat) (w : World) (d g n next bs : Nat) (L : List (Int × Int)) (S : Blocks) (V : Value), MkAt base w d g n next bs L → bs + t.count ≤ n → next + t.count ≤ 1048576 → RdT w S t V → Sub S (Upto base) →
  Calls Try.prog 44 #[V, mkI d] w fun e w' => e = .returned (.tuple #[]) ∧ ∃ bs', MkAt base w' d g n (next + t.count) bs' (mkOut L bs (t.pos next)) ∧ But (Is2 d g) w w'
set_option maxHeartbeats 1000000 in
set_option maxRecDepth 100000 in
theorem mtells_one (t : Tm) (ht : t.two = none) : MTells t := by
  intro base w d g n next bs L S V h hl hnx r hS
  obtain ⟨k, c, wr, lb, kids, v, rfl, rfl, hk, hc, hlb, hkids⟩ := r
  have HP := Lib.hid (Tm.pos_none ht next)
  have HC := Lib.hid (Tm.count_none ht)
  have h3 := h.2.2.1
  by_cases h1 : k = 1
  · subst h1
    obtain ⟨A, cap, rfl, _, _, _⟩ := hkids.form
    have HP2 := Lib.hid (show (Tm.mk 1 c wr lb kids).pos next = [next] by rw [HP.out, if_pos (by simp [Tm.kind])])
    have HC2 := Lib.hid (show (Tm.mk 1 c wr lb kids).count = 1 by rw [HC.out, if_pos (by simp [Tm.kind])])
    have hm := m_mone ⟨d, 0, none⟩
    have bel : Below w.heap.size w (w.alloc (.cells #[.int .i64 1, .int .i64 c, .bool wr, .int .i64 lb, .slice A kids.length cap] 26)) := (Below.refl _ _).alloc (Nat.le_refl _) _
    have H2 := Lib.hid (h.below bel)
    rw [HC2.out] at hl hnx
    have BEL := Lib.hid bel
    have hbn : bs < n := by omega
    have hnx2 : next ≤ 1048576 := by omega
    unfold tmV mkI
    clear hkids h bel ht hl
    go_enter Try.func44, Try.ntmps44
    go_wp2_with fail
    refine (mone_any H2.out hbn hnx2 c wr lb).mono ?_
    rintro e w' ⟨rfl, hr, hb⟩
    go_wp2
    go_end0
    rw [HP2.out, HC2.out, mkOut_one (by omega)]
    exact ⟨rfl, bs, hr, (But.of_below BEL.out).trans hb⟩
  · have HP2 := Lib.hid (show (Tm.mk k c wr lb kids).pos next = [] by rw [HP.out, if_neg (by simpa [Tm.kind] using h1)])
    have HC2 := Lib.hid (show (Tm.mk k c wr lb kids).count = 0 by rw [HC.out, if_neg (by simpa [Tm.kind] using h1)])
    have hm := m_mno ⟨d, 0, none⟩
    obtain ⟨A, cap, rfl, hc1, hc2, hc3⟩ := hkids.form
    have hn := Tm.two_none ht
    simp only [Tm.kind, Tm.kids] at hn
    have e1 : (k == 1) = false := by simpa using h1
    have H0 := Lib.hid h
    unfold maxLen at hc2
    unfold tmV mkI
    clear hkids h ht HP HC h1 hk hl
    have fin : ∀ (W : World), Below w.heap.size w W → Hid (∃ bs', MkAt base W d g n (next + (Tm.mk k c wr lb kids).count) bs' (mkOut L bs ((Tm.mk k c wr lb kids).pos next)) ∧ But (Is2 d g) w W) := fun W hb => Lib.hid (by
      rw [HP2.out, HC2.out, mkOut_nil]
      exact ⟨bs, H0.out.below hb, But.of_below hb⟩)
    have FIN := Lib.hid fin
    clear fin
    by_cases h2 : k = 2
    · subst h2
      have hk2 : kids.length < 2 := by omega
      clear hn
      go_enter Try.func44, Try.ntmps44
      go_wp2_with fail
      refine (mnothing_any d _).mono ?_
      rintro e w' ⟨rfl, rfl⟩
      go_wp2
      go_end0
      exact ⟨rfl, (FIN.out _ ((Below.refl _ _).alloc (Nat.le_refl _) _)).out⟩
    · by_cases h3 : k = 3
      · subst h3
        have hk2 : kids.length < 2 := by omega
        clear hn
        go_enter Try.func44, Try.ntmps44
        go_wp2_with fail
        refine (mnothing_any d _).mono ?_
        rintro e w' ⟨rfl, rfl⟩
        go_wp2
        go_end0
        exact ⟨rfl, (FIN.out _ ((Below.refl _ _).alloc (Nat.le_refl _) _)).out⟩
      · have e2 : (k == 2) = false := by simpa using h2
        have e3 : (k == 3) = false := by simpa using h3
        clear hn h2 h3
        go_enter Try.func44, Try.ntmps44
        go_wp2_with fail
        refine (mnothing_any d _).mono ?_
        rintro e w' ⟨rfl, rfl⟩
        go_wp2
        go_end0
        exact ⟨rfl, (FIN.out _ ((Below.refl _ _).alloc (Nat.le_refl _) _)).out⟩
end Go.Proofs.Ytfldajplclahfaa
