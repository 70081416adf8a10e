/- Printing, plainly: statements. -/
import Derived.Test.YtijahadmaggncaaDoorKpSpec
namespace Go.Proofs.YtijahadmaggncaaDoor
open Go.RowKit
set_option linter.unusedVariables false
abbrev T1 (l : List Str) : Tks := (l, true)
def tcat (A B : Tks) : Tks := (A.1 ++ B.1, A.2 && B.2)
def seqT (l : List Tks) : Tks := l.foldl tcat (T1 [])
def tname (s : Str) : Tks := ([s], knameB s)
def tblk (L : Tks) : Tks := tcat (tcat (T1 [bs [123]]) L) (T1 [bs [125]])
/-- the parts of a statement: e: whether there is an else -/
def partsK (neg : Bool) (k : Int) (s : Str) (a b : Ex) (B E : Tks) (e : Bool) : List Tks :=
  if k = 1 then [T1 [bs [108, 101, 116]], tname s, T1 [bs [61]], tkE neg a false, T1 [bs [59]]]
  else if k = 2 then [T1 [bs [108, 111, 97, 100]], tname s, T1 [bs [61]], T1 [bs [91]], tkE neg a false, T1 [bs [93]], T1 [bs [59]]]
  else if k = 3 then [T1 [bs [115, 116, 111, 114, 101]], T1 [bs [91]], tkE neg a false, T1 [bs [93]], T1 [bs [61]], tkE neg b false, T1 [bs [59]]]
  else if k = 4 then [T1 [bs [97, 115, 121, 110, 99]], tblk B]
  else if k = 5 then [T1 [bs [102, 105, 110, 105, 115, 104]], tblk B]
  else if k = 6 then (if e then [T1 [bs [105, 102]], tkE neg a false, tblk B, T1 [bs [101, 108, 115, 101]], tblk E] else [T1 [bs [105, 102]], tkE neg a false, tblk B])
  else if k = 7 then [T1 [bs [102, 111, 114]], tname s, T1 [bs [61]], tkE neg a false, T1 [bs [116, 111]], tkE neg b false, tblk B]
  else [([], false)]
mutual
def tkS (neg : Bool) : St → Tks
  | .mk k s a b body els => seqT (partsK neg k s a b (tkL neg body) (tkL neg els) (!els.isEmpty))
def tkL (neg : Bool) : List St → Tks
  | [] => T1 []
  | s :: r => tcat (tkS neg s) (tkL neg r)
end
theorem tcat_assoc (A B C : Tks) : tcat (tcat A B) C = tcat A (tcat B C) := by simp [tcat, Bool.and_assoc]
theorem tcat_nil (A : Tks) : tcat A (T1 []) = A := by simp [tcat]
theorem nil_tcat (A : Tks) : tcat (T1 []) A = A := by simp [tcat]
theorem seqT_snoc (l : List Tks) (x : Tks) : seqT (l ++ [x]) = tcat (seqT l) x := by unfold seqT; rw [List.foldl_append]; rfl
theorem seqT_take (l : List Tks) {q : Nat} (hq : q < l.length) : seqT (l.take (q + 1)) = tcat (seqT (l.take q)) l[q] := by
  rw [List.take_succ_eq_append_getElem hq, seqT_snoc]
theorem tkL_snoc (neg : Bool) (l : List St) (s : St) : tkL neg (l ++ [s]) = tcat (tkL neg l) (tkS neg s) := by
  induction l with
  | nil => show tkL neg [s] = _; simp only [tkL, tcat_nil, nil_tcat]
  | cons t l ih =>
    show tkL neg (t :: (l ++ [s])) = _
    rw [tkL, ih, tkL, tcat_assoc]
theorem tkL_take (neg : Bool) (l : List St) {q : Nat} (hq : q < l.length) : tkL neg (l.take (q + 1)) = tcat (tkL neg (l.take q)) (tkS neg l[q]) := by
  rw [List.take_succ_eq_append_getElem hq, tkL_snoc]
/-- of statements, from within -/
theorem St.indL {P : List St → Prop} (h : ∀ l, (∀ k s a b body els, St.mk k s a b body els ∈ l → P body ∧ P els) → P l) (l : List St) : P l := by
  have key : ∀ (m : Nat) (l : List St), SizeOf.sizeOf l ≤ m → P l := by
    intro m
    induction m with
    | zero => intro l hl; cases l <;> simp at hl
    | succ m ih =>
      intro l hl
      refine h l fun k s a b body els hm => ?_
      have := List.sizeOf_lt_of_mem hm
      have h2 : SizeOf.sizeOf (St.mk k s a b body els) = 1 + SizeOf.sizeOf k + SizeOf.sizeOf s + SizeOf.sizeOf a + SizeOf.sizeOf b + SizeOf.sizeOf body + SizeOf.sizeOf els := by simp
      exact ⟨ih _ (by omega), ih _ (by omega)⟩
  exact key _ l (Nat.le_refl _)
/-- both ways of a number below none say the same -/
def TR (A B : Tks) : Prop := A.2 = B.2 ∧ (B.2 = true → A.1 = B.1)
theorem TR.refl (A : Tks) : TR A A := ⟨rfl, fun _ => rfl⟩
theorem TR.cat {A B C D : Tks} (h : TR A B) (k : TR C D) : TR (tcat A C) (tcat B D) := by
  refine ⟨by simp only [tcat, h.1, k.1], fun ho => ?_⟩
  simp only [tcat, Bool.and_eq_true] at ho ⊢
  rw [h.2 ho.1, k.2 ho.2]
theorem TR.blk {A B : Tks} (h : TR A B) : TR (tblk A) (tblk B) := ((TR.refl _).cat h).cat (TR.refl _)
inductive All2 (R : Tks → Tks → Prop) : List Tks → List Tks → Prop
  | nil : All2 R [] []
  | cons {x y : Tks} {l m : List Tks} : R x y → All2 R l m → All2 R (x :: l) (y :: m)
theorem TR.seq {l m : List Tks} (hh : All2 TR l m) : ∀ (x y : Tks), TR x y → TR (l.foldl tcat x) (m.foldl tcat y) := by
  induction hh with
  | nil => exact fun x y h => h
  | cons h1 h2 ih => exact fun x y h => ih _ _ (h.cat h1)
theorem tkE_TR (a : Ex) (inner : Bool) : TR (tkE true a inner) (tkE false a inner) := tkE_neg a inner
theorem partsK_TR (k : Int) (s : Str) (a b : Ex) {B E B' E' : Tks} (e : Bool) (hB : TR B B') (hE : TR E E') : All2 TR (partsK true k s a b B E e) (partsK false k s a b B' E' e) := by
  unfold partsK
  have ha := tkE_TR a false
  have hb := tkE_TR b false
  repeat' split
  all_goals (repeat' (first | exact .nil | refine .cons ?_ ?_ | exact TR.refl _ | exact ha | exact hb | exact hB.blk | exact hE.blk))
theorem tkL_TR (l : List St) : TR (tkL true l) (tkL false l) := by
  refine St.indL (P := fun l => TR (tkL true l) (tkL false l)) ?_ l
  intro l h
  induction l with
  | nil => exact TR.refl _
  | cons s r ih =>
    rw [tkL, tkL]
    refine TR.cat ?_ (ih fun k s a b body els hm => h k s a b body els (List.mem_cons_of_mem _ hm))
    obtain ⟨k, s, a, b, body, els⟩ := s
    have hh := h k s a b body els (by simp)
    rw [tkS, tkS]
    exact TR.seq (partsK_TR k s a b _ hh.1 hh.2) _ _ (TR.refl _)
/-- what is well holds no empty word -/
def NeT (A : Tks) : Prop := A.2 = true → ∀ x ∈ A.1, x.size ≠ 0
theorem NeT.cat {A B : Tks} (h : NeT A) (k : NeT B) : NeT (tcat A B) := fun ho x hx => by
  simp only [tcat, Bool.and_eq_true] at ho hx
  rcases List.mem_append.1 hx with hx | hx
  · exact h ho.1 x hx
  · exact k ho.2 x hx
theorem NeT.lit {l : List Str} (h : ∀ x ∈ l, x.size ≠ 0) : NeT (T1 l) := fun _ => h
theorem knameB_ne {s : Str} (h : knameB s = true) : s.size ≠ 0 := by
  intro h0
  have h1 : s.data.size = 0 := h0
  have h2 : s.data = #[] := Array.eq_empty_of_size_eq_zero h1
  unfold knameB nameL at h
  simp [h2] at h
theorem NeT.nm (s : Str) : NeT (tname s) := fun ho x hx => by
  simp only [tname, List.mem_singleton] at ho hx
  subst hx
  exact knameB_ne ho
theorem itoaS_ne (n : Int) : (itoaS n).size ≠ 0 := by
  have e : (itoaS n).size = (Lib.itoa n).length := by unfold itoaS; simp [ByteArray.size]
  rw [e]
  unfold Lib.itoa
  split
  · simp
  · rw [Lib.decDigits_length]
    unfold Lib.nDigits
    split <;> omega
theorem sgn_ne {k : Int} (h0 : 3 ≤ k) (h1 : k ≤ 9) : (sgn k).size ≠ 0 := by
  unfold sgn
  have hlt : (k - 3).toNat < 7 := by omega
  obtain ⟨q, hq⟩ : ∃ q, q = (k - 3).toNat := ⟨_, rfl⟩
  rw [← hq] at hlt ⊢
  match q, hlt with
  | 0, _ => decide
  | 1, _ => decide
  | 2, _ => decide
  | 3, _ => decide
  | 4, _ => decide
  | 5, _ => decide
  | 6, _ => decide
  | n + 7, h => omega
theorem tkE_ne (neg : Bool) (t : Ex) : ∀ inner, NeT (tkE neg t inner) := by
  induction t using Ex.indP with
  | one t h =>
    intro inner
    rw [tkE_none h]
    split
    · split
      · exact NeT.lit (fun x hx => by simp at hx; subst hx; exact itoaS_ne _)
      · exact fun ho => by cases ho
    · split
      · exact NeT.nm _
      · exact fun ho => by cases ho
  | two t a b h iha ihb =>
    intro inner
    rw [tkE_pair h]
    have hk := (Ex.pair_some h).1
    unfold pairT
    intro ho x hx
    simp only [Bool.and_eq_true] at ho
    have h1 := iha true ho.1
    have h2 := ihb true ho.2
    simp only at hx
    have hs := sgn_ne hk.1 hk.2
    split at hx
    · simp only [List.mem_append, List.mem_singleton] at hx
      rcases hx with (rfl | (hx | rfl) | hx) | rfl
      · decide
      · exact h1 x hx
      · exact hs
      · exact h2 x hx
      · decide
    · simp only [List.mem_append, List.mem_singleton] at hx
      rcases hx with (hx | rfl) | hx
      · exact h1 x hx
      · exact hs
      · exact h2 x hx
theorem NeT.blk {A : Tks} (h : NeT A) : NeT (tblk A) := ((NeT.lit (by decide)).cat h).cat (NeT.lit (by decide))
theorem NeT.seq : ∀ (l : List Tks) (x : Tks), NeT x → (∀ y ∈ l, NeT y) → NeT (l.foldl tcat x)
  | [], x, h, _ => h
  | y :: l, x, h, k => NeT.seq l _ (h.cat (k y (by simp))) (fun z hz => k z (by simp [hz]))
theorem partsK_ne (neg : Bool) (k : Int) (s : Str) (a b : Ex) {B E : Tks} (e : Bool) (hB : NeT B) (hE : NeT E) : ∀ y ∈ partsK neg k s a b B E e, NeT y := by
  unfold partsK
  have ha := tkE_ne neg a false
  have hb := tkE_ne neg b false
  have hBB := hB.blk
  have hEE := hE.blk
  have hn := NeT.nm s
  have hl : ∀ l : List Str, (l.all fun x => x.size != 0) = true → NeT (T1 l) := fun l h => NeT.lit (fun x hx => by have := List.all_eq_true.1 h x hx; simpa using this)
  repeat' split
  all_goals (repeat' (first | exact fun y hy => absurd hy List.not_mem_nil | refine List.forall_mem_cons.2 ⟨?_, ?_⟩ | exact ha | exact hb | exact hBB | exact hEE | exact hn | exact hl _ (by decide) | exact fun ho => by cases ho))
theorem tkL_ne (neg : Bool) (l : List St) : NeT (tkL neg l) := by
  refine St.indL (P := fun l => NeT (tkL neg l)) ?_ l
  intro l h
  induction l with
  | nil => exact NeT.lit (by simp)
  | cons s r ih =>
    rw [tkL]
    refine NeT.cat ?_ (ih fun k s a b body els hm => h k s a b body els (List.mem_cons_of_mem _ hm))
    obtain ⟨k, s, a, b, body, els⟩ := s
    have hh := h k s a b body els (by simp)
    rw [tkS]
    exact NeT.seq _ _ (NeT.lit (by simp)) (partsK_ne neg k s a b _ hh.1 hh.2)
end Go.Proofs.YtijahadmaggncaaDoor
