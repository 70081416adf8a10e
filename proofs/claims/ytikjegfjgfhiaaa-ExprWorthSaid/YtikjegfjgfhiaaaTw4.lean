/- The walks of ETwo and of expr.two. -/
import Derived.Test.YtikjegfjgfhiaaaTwo
import Derived.Test.YtikjegfjgfhiaaaFlat
import Derived.Laws.Strings
namespace Go.Proofs.Ytikjegfjgfhiaaa
open Go.RowKit
set_option linter.unusedVariables false
abbrev exV (k n : Int) (s : ByteArray) (v : Value) : Value := .agg #[.int .i64 k, .int .i64 n, .string s, v]
/-- the value V reads as the expression e -/
def RdE (w : World) (S : Blocks) (e : Ex) (V : Value) : Prop := ∃ k n s args v, e = .mk k n s args ∧ V = exV k n s v ∧ inI k ∧ inI n ∧ s.size ≤ 140737488355328 ∧ RdExs w S args v
theorem RdE.keep {w w' : World} {S S' : Blocks} {t : Ex} {V : Value} (h : RdE w S t V) (hS : Sub S S') (hk : Same S w w') : RdE w' S' t V := by
  obtain ⟨k, n, s, args, v, e1, e2, h1, h2, h3, h4⟩ := h
  exact ⟨k, n, s, args, v, e1, e2, h1, h2, h3, h4.keep RdEx.keeps hS hk⟩
theorem RdE.go {B : Nat} {w w' : World} {S : Blocks} {t : Ex} {V : Value} (h : RdE w S t V) (hb : Below B w w') (hS : Sub S (Upto B)) : RdE w' S t V := h.keep (Sub.refl _) (same_of_below hb hS)
theorem RdE.slice {w : World} {S : Blocks} {t : Ex} {k n : Int} {s : ByteArray} {v : Value} (h : RdE w S t (exV k n s v)) : ∃ A n cap, v = .slice A n cap := by
  obtain ⟨k', n', s', args, v', _, e, _, _, _, h4⟩ := h
  obtain ⟨A, cap, rfl, _⟩ := h4.form
  injection e with e
  simp only [Array.mk.injEq, List.cons.injEq, and_true] at e
  exact ⟨_, _, _, e.2.2.2⟩
/-- an argument -/
theorem RdExs.arg {w : World} {S : Blocks} {l : List Ex} {A : Option Addr} {n cap : Nat} (h : RdExs w S l (.slice A n cap)) {q : Nat} (hq : q < l.length) :
    ∃ b off k c s v, A = some ⟨b, off, none⟩ ∧ S b ∧ w.cell? ⟨b, off + q * 4, none⟩ = some (.int .i64 k) ∧ w.cell? ⟨b, off + q * 4 + 1, none⟩ = some (.int .i64 c) ∧ w.cell? ⟨b, off + q * 4 + 2, none⟩ = some (.string s) ∧
      w.cell? ⟨b, off + q * 4 + 3, none⟩ = some v ∧ RdE w S l[q] (exV k c s v) := by
  obtain ⟨b, off, cs, hA, hb, _, hc, hr⟩ := RdL.at_ h hq
  generalize l[q] = t at hr
  obtain ⟨k, c, s, args⟩ := t
  obtain ⟨h1, h2, h3, v, rfl, h4⟩ := RdEx.open_ hr
  exact ⟨b, off, k, c, s, v, hA, hb, hc 0 _ rfl, by rw [Nat.add_assoc]; exact hc 1 _ rfl, by rw [Nat.add_assoc]; exact hc 2 _ rfl, by rw [Nat.add_assoc]; exact hc 3 _ rfl, k, c, s, args, v, rfl, rfl, h1, h2, h3, h4⟩
def Ex.isTwo (t : Ex) : Bool := t.two.isSome
theorem etwo_any (t : Ex) (w : World) (S : Blocks) (V : Value) (r : RdE w S t V) :
    Calls Try.prog 21 #[V] w fun e w' => e = .returned (.bool t.isTwo) ∧ Below w.heap.size w w' := by
  obtain ⟨k, n, s, args, v, rfl, rfl, _, _, _, h4⟩ := r
  obtain ⟨A, cap, rfl, hc1, hc2, hc3⟩ := h4.form
  unfold maxLen at hc2
  unfold exV
  have hT : (Ex.mk k n s args).isTwo = true ↔ (3 ≤ k ∧ k ≤ 9 ∧ 2 ≤ args.length) := by
    unfold Ex.isTwo
    match args with
    | [] => simp [Ex.two]
    | [x] => simp [Ex.two]
    | x :: y :: r => simp only [Ex.two]; split <;> simp <;> omega
  generalize (Ex.mk k n s args).isTwo = T at *
  generalize args.length = m at *
  clear h4
  have key : (decide (3 ≤ k) && decide (k ≤ 9) && decide (2 ≤ (m : Int))) = T := by
    rw [Bool.eq_iff_iff, hT]; simp [and_assoc]; omega
  clear hT
  subst key
  by_cases h1 : 3 ≤ k
  · by_cases h2 : k ≤ 9
    · go_enter Try.func21, Try.ntmps21
      go_wp2
      go_ret
      exact ⟨by simp [h1, h2], (Below.refl _ _).alloc (Nat.le_refl _) _⟩
    · go_enter Try.func21, Try.ntmps21
      go_wp2
      go_ret
      exact ⟨by simp; omega, (Below.refl _ _).alloc (Nat.le_refl _) _⟩
  · go_enter Try.func21, Try.ntmps21
    go_wp2
    go_ret
    exact ⟨by simp; omega, (Below.refl _ _).alloc (Nat.le_refl _) _⟩
abbrev ex0 : Value := .agg #[.int .i64 0, .int .i64 0, .string ⟨#[]⟩, .slice none 0 0]
set_option maxHeartbeats 1000000 in
set_option maxRecDepth 100000 in
theorem two_none (t : Ex) (ht : t.two = none) (w : World) (S : Blocks) (V : Value) (r : RdE w S t V) :
    Calls Try.prog 18 #[V] w fun e w' => e = .returned (.tuple #[ex0, ex0, .bool false]) ∧ Below w.heap.size w w' := by
  obtain ⟨k, n, s, args, v, rfl, rfl, _, _, _, h4⟩ := r
  obtain ⟨A, cap, rfl, hc1, hc2, hc3⟩ := h4.form
  have hn := Ex.two_none ht
  simp only [Ex.kind, Ex.args] at hn
  unfold maxLen at hc2
  unfold exV
  generalize args.length = m at *
  clear h4 ht
  by_cases h1 : k < 3
  · clear hn
    go_enter Try.func18, Try.ntmps18
    go_upto_region 2 with (fail)
    go_region
    go_wp2
    refine bodyPost_ret (v := .tuple #[ex0, ex0, .bool false]) (by simp [results, Try.results18, go_sem]) rfl ⟨rfl, ?_⟩
    exact ((((Below.refl _ w).alloc (Nat.le_refl _) _).alloc (by simp) _).alloc (by simp; omega) _).drew
  · by_cases h2 : 9 < k
    · clear hn
      go_enter Try.func18, Try.ntmps18
      go_upto_region 2 with (fail)
      go_region
      go_wp2
      refine bodyPost_ret (v := .tuple #[ex0, ex0, .bool false]) (by simp [results, Try.results18, go_sem]) rfl ⟨rfl, ?_⟩
      exact ((((Below.refl _ w).alloc (Nat.le_refl _) _).alloc (by simp) _).alloc (by simp; omega) _).drew
    · have hm : (m : Int) < 2 := by omega
      clear hn
      go_enter Try.func18, Try.ntmps18
      go_upto_region 2 with (fail)
      go_region
      go_wp2
      refine bodyPost_ret (v := .tuple #[ex0, ex0, .bool false]) (by simp [results, Try.results18, go_sem]) rfl ⟨rfl, ?_⟩
      exact ((((Below.refl _ w).alloc (Nat.le_refl _) _).alloc (by simp) _).alloc (by simp; omega) _).drew
set_option maxHeartbeats 1000000 in
set_option maxRecDepth 100000 in
theorem two_two (t a b : Ex) (ht : t.two = some (a, b)) (w : World) (S : Blocks) (V : Value) (hS : Sub S (Upto w.heap.size)) (r : RdE w S t V) :
    Calls Try.prog 18 #[V] w fun e w' => (∃ Va Vb, e = .returned (.tuple #[Va, Vb, .bool true]) ∧ RdE w' S a Va ∧ RdE w' S b Vb) ∧ Below w.heap.size w w' := by
  obtain ⟨k, c, s, args, v, rfl, rfl, _, _, _, hargs⟩ := r
  obtain ⟨hkk, r', hr'⟩ := Ex.two_kind ht
  simp only [Ex.kind, Ex.args] at hkk hr'
  subst hr'
  obtain ⟨A, cap, rfl, hcl, hcm, _⟩ := hargs.form
  have hl2 : 2 ≤ (a :: b :: r').length := by simp
  obtain ⟨b0, off, k0, c0, s0, v0, rfl, hsb, x0, x1, x2, x3, ra⟩ := RdExs.arg hargs (q := 0) (by simp)
  obtain ⟨b0', off', k1, c1, s1, v1, hA, hsb', y0, y1, y2, y3, rb⟩ := RdExs.arg hargs (q := 1) (by simp)
  injection hA with hA
  injection hA with e1 e2
  subst e1 e2
  simp only [List.getElem_cons_zero, List.getElem_cons_succ] at ra rb
  rw [Nat.zero_mul, Nat.add_zero] at x0 x1 x2 x3
  rw [Nat.one_mul] at y0 y1 y2 y3
  have RA := Lib.hid ra
  have RB := Lib.hid rb
  have HS := Lib.hid hS
  have hb0 : b0 < w.heap.size := hS _ hsb
  have hb01 : b0 < w.heap.size + 1 := by omega
  have hb02 : b0 < w.heap.size + 1 + 1 := by omega
  have hb03 : b0 < w.heap.size + 2 := by omega
  obtain ⟨A1, m1, n1, rfl⟩ := ra.slice
  obtain ⟨A2, m2, n2, rfl⟩ := rb.slice
  generalize (a :: b :: r').length = n at *
  clear ra rb hargs ht hS
  have hn0 : (0 : Int) < (n : Int) := by omega
  have hn00 : 0 < n := by omega
  have hn1 : (1 : Int) < (n : Int) := by omega
  have hk3 : ¬ k < 3 := by omega
  have hk9 : ¬ 9 < k := by omega
  have hn2 : ¬ (n : Int) < 2 := by omega
  clear hkk
  unfold exV
  unfold maxLen at hcm
  go_enter Try.func18, Try.ntmps18
  go_upto_region 3 with (fail)
  go_region
  go_wp2
  refine bodyPost_ret (v := .tuple #[.agg #[.int .i64 k0, .int .i64 c0, .string s0, .slice A1 m1 n1], .agg #[.int .i64 k1, .int .i64 c1, .string s1, .slice A2 m2 n2], .bool true]) (by simp [results, Try.results18, go_sem]) rfl ?_
  refine (fun bel => ⟨⟨_, _, rfl, RA.out.go bel HS.out, RB.out.go bel HS.out⟩, bel⟩ : Below w.heap.size w _ → _) ?_
  exact ((((Below.refl _ w).alloc (Nat.le_refl _) _).alloc (by simp) _).alloc (by simp; omega) _).drew
end Go.Proofs.Ytikjegfjgfhiaaa
