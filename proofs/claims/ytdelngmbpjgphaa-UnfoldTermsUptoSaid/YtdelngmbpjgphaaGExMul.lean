/- Texts merged: AppF, Tw4, ExMul. -/
import Derived.Test.YtdelngmbpjgphaaAppZ
import Derived.Deep.RegionLawGrows
import Derived.Test.YtdelngmbpjgphaaGScSpec
import Derived.Test.YtdelngmbpjgphaaFlat
import Derived.Laws.Strings
import Derived.Shelf.Bits.Mul64
import Derived.Test.YtdelngmbpjgphaaBase
/- 'append' onto a slice without room: what was there is as it was. -/
namespace Go.Proofs.Ytdelngmbpjgphaa
open Go.RowKit
set_option linter.unusedVariables false
section
variable {P : Program} {α : Type} {enc : α → List Value} {ok : α → Prop} {size bytes : Nat} {E : TypeId} {w : World} {base : Nat} {l m : List α} {v : Value} {A : Option Addr} {n c : Nat}
theorem map_flat_len (hs : ∀ e, (enc e).length = size) (l : List α) : (l.map enc).flatten.length = l.length * size := by
  induction l with
  | nil => simp
  | cons x r ih => rw [List.map_cons, List.flatten_cons, List.length_append, ih, hs, List.length_cons, Nat.succ_mul]; omega
theorem Fr.flat_at (hs : ∀ e, (enc e).length = size) (h : Fr enc ok size bytes w l (.slice A n c)) : n = l.length ∧ n ≤ c ∧ c ≤ maxLen ∧ (∀ x ∈ l, ok x) ∧ l.length * bytes ≤ 140737488355328 ∧ (0 < l.length → ∃ b off, A = some ⟨b, off, none⟩ ∧ b < w.heap.size ∧ ∀ j u, (l.map enc).flatten[j]? = some u → w.cell? ⟨b, off + j, none⟩ = some u) := by
  obtain ⟨T, hT, r⟩ := h
  obtain ⟨A', cap, e, h1, h2, h3⟩ := r.form
  injection e with e1 e2 e3
  subst e1 e2 e3
  refine ⟨rfl, h1, h2, fun x hx => ?_, h3, fun h0 => ?_⟩
  · obtain ⟨q, hq, rfl⟩ := List.getElem_of_mem hx
    obtain ⟨_, _, _, _, hok, _⟩ := RdL.flat r hq
    exact hok
  · obtain ⟨b, off, hA, hb, _, _⟩ := RdL.flat r h0
    refine ⟨b, off, hA, hT _ hb, fun j u hj => ?_⟩
    obtain ⟨i, cs, k, hi, hk, rfl⟩ := flatten_get (size := size) (css := l.map enc) (fun cs hcs => by obtain ⟨y, _, rfl⟩ := List.mem_map.1 hcs; exact hs y) hj
    rw [List.getElem?_map] at hi
    obtain ⟨y, hy, rfl⟩ := Option.map_eq_some_iff.1 hi
    have hlt := (List.getElem?_eq_some_iff.1 hy).1
    have hye := (List.getElem?_eq_some_iff.1 hy).2
    obtain ⟨b', off', hA', _, _, hc⟩ := RdL.flat r hlt
    rw [hA] at hA'
    injection hA' with hA'
    injection hA' with e1 e2
    subst e1 e2
    rw [← hye] at hk
    exact hc k u hk
/-- 'append' onto a slice without room -/
theorem step_append_full {ops : Array Oper} {o : Oper} {a : Act} {K : Act → World → Prop} {Q : Exit → Act → World → Prop} {Z : Prop} (hgd : o.guard = none) (s y : Operand) (t : TypeId) (ho : o.op = .call { callee := .builtin .append, args := #[s, y], argTypes := #[t, t] })
    (hs : a.eval s = .slice A l.length l.length) (hy : a.eval y = .slice (some ⟨c, 0, none⟩) 1 1) (x : α)
    (i : TypeInfo) (z : Value) (ht : P.underlying t = some (.slice E)) (hi : P.info? E = some i) (hz : i.zero = some z) (hsize : i.size = size) (hby : i.bytes = bytes) (hzs : z.cells.size = size) (hsz : 0 < size)
    (hlen : ∀ e, (enc e).length = size) (h1 : ∀ e, ok e → ∀ u ∈ enc e, u.oneCell' = true) (hl : Fr enc ok size bytes w l (.slice A l.length l.length)) (hok : ok x) (hx : ∀ (j : Nat) u, (enc x)[j]? = some u → w.cell? ⟨c, j, none⟩ = some u)
    (hb : (l.length + 1) * bytes ≤ 140737488355328) (hm : l.length + 1 ≤ maxLen)
    (h : ∀ v' w', OwnL (Flat enc ok) size E w' w.heap.size Nowhere (l ++ [x]) v' → Below w.heap.size w w' → K (a.put o.dst v') w') :
    if Region.wanted o (yielded ops a.tmps) = true then Oper.wp P o a w K Q else Z := by
  obtain ⟨_, h2, h3, h4, h5, h6⟩ := hl.flat_at hlen
  have hsing : ∀ y : α, ([y].map enc).flatten = enc y := fun y => by simp
  have hadd : ∀ (b off j : Nat), (⟨b, off, none⟩ : Addr).add j = ⟨b, off + j, none⟩ := fun b off j => by unfold Addr.add; split <;> simp_all
  have hlist : ∃ olds : List Value, olds = (l.map enc).flatten ∧ (∀ b, A = some b → ∀ (j : Nat) u, olds[j]? = some u → w.cell? (b.add j) = some u) ∧ (A = none → l.length = 0) := by
    refine ⟨_, rfl, fun b hb j u hj => ?_, fun hA => ?_⟩
    · rcases Nat.eq_zero_or_pos l.length with h0 | h0
      · have : l = [] := List.eq_nil_of_length_eq_zero h0
        subst this
        simp at hj
      · obtain ⟨b', off, hA, _, hc⟩ := h6 h0
        rw [hA] at hb
        injection hb with hb
        subst hb
        rw [hadd]
        exact hc j u hj
    · rcases Nat.eq_zero_or_pos l.length with h0 | h0
      · exact h0
      · obtain ⟨b', off, hA', _, hc⟩ := h6 h0
        rw [hA] at hA'; cases hA'
  obtain ⟨olds, hol, hcells, hnone⟩ := hlist
  refine step_append_grows hgd s y t ho E i z size bytes ht hi hz hsize hby hzs hsz A l.length l.length olds hs (fun e => ⟨hnone e, hnone e⟩) (by rw [hol, map_flat_len hlen]) hcells ⟨c, 0, none⟩ 1 1 (enc x) hy (by rw [hlen]; omega)
    (fun j u hj => by rw [hadd, Nat.zero_add]; exact hx j u hj) (h1 x hok) (by omega) hm hb ?_
  intro v' w' r1 r2
  refine h v' w' ⟨fun _ => False, (l ++ [x]).map enc, fun _ h => h.elim, fun _ h => h.elim, fun _ _ h => h, by simp, (fun cs hcs => by obtain ⟨y, _, rfl⟩ := List.mem_map.1 hcs; exact hlen y), ?_, fun j e cs hi hc => ?_⟩ ⟨r2.os, r2.tape, r2.output, r2.size, fun k hk => r2.block k hk (by simp)⟩
  · rw [List.map_append, List.flatten_append, hsing, ← hol, List.length_append, List.length_singleton]
    exact r1
  · rw [List.getElem?_map, hi] at hc
    simp at hc
    subst hc
    refine ⟨rfl, ?_⟩
    have := List.mem_of_getElem? hi
    rcases List.mem_append.1 this with h | h
    · exact h4 e h
    · simp at h; subst h; exact hok
end
end Go.Proofs.Ytdelngmbpjgphaa
/- The walks of ETwo and of expr.two. -/
namespace Go.Proofs.Ytdelngmbpjgphaa
open Go.RowKit
set_option linter.unusedVariables false
abbrev exV (k n : Int) (s : ByteArray) (v : Value) : Value := .agg #[.int .i64 k, .int .i64 n, .string s, v]
/-- the value V reads as the expression e -/
def RdE (w : World) (S : Blocks) (e : Ex) (V : Value) : Prop := ∃ k n s args v, e = .mk k n s args ∧ V = exV k n s v ∧ inI k ∧ inI n ∧ s.size ≤ 140737488355328 ∧ RdExs w S args v
theorem RdE.keep {w w' : World} {S S' : Blocks} {t : Ex} {V : Value} (h : RdE w S t V) (hS : Sub S S') (hk : Same S w w') : RdE w' S' t V := by
  obtain ⟨k, n, s, args, v, e1, e2, h1, h2, h3, h4⟩ := h
  exact ⟨k, n, s, args, v, e1, e2, h1, h2, h3, h4.keep RdEx.keeps hS hk⟩
theorem RdE.go {B : Nat} {w w' : World} {S : Blocks} {t : Ex} {V : Value} (h : RdE w S t V) (hb : Below B w w') (hS : Sub S (Upto B)) : RdE w' S t V := h.keep (Sub.refl _) (same_of_below hb hS)
theorem RdE.slice {w : World} {S : Blocks} {t : Ex} {k n : Int} {s : ByteArray} {v : Value} (h : RdE w S t (exV k n s v)) : ∃ A n cap, v = .slice A n cap := by
  obtain ⟨k', n', s', args, v', _, e, _, _, _, h4⟩ := h
  obtain ⟨A, cap, rfl, _⟩ := h4.form
  injection e with e
  simp only [Array.mk.injEq, List.cons.injEq, and_true] at e
  exact ⟨_, _, _, e.2.2.2⟩
/-- an argument -/
theorem RdExs.arg {w : World} {S : Blocks} {l : List Ex} {A : Option Addr} {n cap : Nat} (h : RdExs w S l (.slice A n cap)) {q : Nat} (hq : q < l.length) :
    ∃ b off k c s v, A = some ⟨b, off, none⟩ ∧ S b ∧ w.cell? ⟨b, off + q * 4, none⟩ = some (.int .i64 k) ∧ w.cell? ⟨b, off + q * 4 + 1, none⟩ = some (.int .i64 c) ∧ w.cell? ⟨b, off + q * 4 + 2, none⟩ = some (.string s) ∧
      w.cell? ⟨b, off + q * 4 + 3, none⟩ = some v ∧ RdE w S l[q] (exV k c s v) := by
  obtain ⟨b, off, cs, hA, hb, _, hc, hr⟩ := RdL.at_ h hq
  generalize l[q] = t at hr
  obtain ⟨k, c, s, args⟩ := t
  obtain ⟨h1, h2, h3, v, rfl, h4⟩ := RdEx.open_ hr
  exact ⟨b, off, k, c, s, v, hA, hb, hc 0 _ rfl, by rw [Nat.add_assoc]; exact hc 1 _ rfl, by rw [Nat.add_assoc]; exact hc 2 _ rfl, by rw [Nat.add_assoc]; exact hc 3 _ rfl, k, c, s, args, v, rfl, rfl, h1, h2, h3, h4⟩
def Ex.isTwo (t : Ex) : Bool := t.two.isSome
theorem etwo_any (t : Ex) (w : World) (S : Blocks) (V : Value) (r : RdE w S t V) :
    Calls Try.prog 63 #[V] w fun e w' => e = .returned (.bool t.isTwo) ∧ Below w.heap.size w w' := by
  obtain ⟨k, n, s, args, v, rfl, rfl, _, _, _, h4⟩ := r
  obtain ⟨A, cap, rfl, hc1, hc2, hc3⟩ := h4.form
  unfold maxLen at hc2
  unfold exV
  have hT : (Ex.mk k n s args).isTwo = true ↔ (3 ≤ k ∧ k ≤ 9 ∧ 2 ≤ args.length) := by
    unfold Ex.isTwo
    match args with
    | [] => simp [Ex.two]
    | [x] => simp [Ex.two]
    | x :: y :: r => simp only [Ex.two]; split <;> simp <;> omega
  generalize (Ex.mk k n s args).isTwo = T at *
  generalize args.length = m at *
  clear h4
  have key : (decide (3 ≤ k) && decide (k ≤ 9) && decide (2 ≤ (m : Int))) = T := by
    rw [Bool.eq_iff_iff, hT]; simp [and_assoc]; omega
  clear hT
  subst key
  by_cases h1 : 3 ≤ k
  · by_cases h2 : k ≤ 9
    · go_enter Try.func63, Try.ntmps63
      go_wp2
      go_ret
      exact ⟨by simp [h1, h2], (Below.refl _ _).alloc (Nat.le_refl _) _⟩
    · go_enter Try.func63, Try.ntmps63
      go_wp2
      go_ret
      exact ⟨by simp; omega, (Below.refl _ _).alloc (Nat.le_refl _) _⟩
  · go_enter Try.func63, Try.ntmps63
    go_wp2
    go_ret
    exact ⟨by simp; omega, (Below.refl _ _).alloc (Nat.le_refl _) _⟩
abbrev ex0 : Value := .agg #[.int .i64 0, .int .i64 0, .string ⟨#[]⟩, .slice none 0 0]
set_option maxHeartbeats 1000000 in
set_option maxRecDepth 100000 in
theorem two_none (t : Ex) (ht : t.two = none) (w : World) (S : Blocks) (V : Value) (r : RdE w S t V) :
    Calls Try.prog 58 #[V] w fun e w' => e = .returned (.tuple #[ex0, ex0, .bool false]) ∧ Below w.heap.size w w' := by
  obtain ⟨k, n, s, args, v, rfl, rfl, _, _, _, h4⟩ := r
  obtain ⟨A, cap, rfl, hc1, hc2, hc3⟩ := h4.form
  have hn := Ex.two_none ht
  simp only [Ex.kind, Ex.args] at hn
  unfold maxLen at hc2
  unfold exV
  generalize args.length = m at *
  clear h4 ht
  by_cases h1 : k < 3
  · clear hn
    go_enter Try.func58, Try.ntmps58
    go_upto_region 2 with (fail)
    go_region
    go_wp2
    refine bodyPost_ret (v := .tuple #[ex0, ex0, .bool false]) (by simp [results, Try.results58, go_sem]) rfl ⟨rfl, ?_⟩
    exact ((((Below.refl _ w).alloc (Nat.le_refl _) _).alloc (by simp) _).alloc (by simp; omega) _).drew
  · by_cases h2 : 9 < k
    · clear hn
      go_enter Try.func58, Try.ntmps58
      go_upto_region 2 with (fail)
      go_region
      go_wp2
      refine bodyPost_ret (v := .tuple #[ex0, ex0, .bool false]) (by simp [results, Try.results58, go_sem]) rfl ⟨rfl, ?_⟩
      exact ((((Below.refl _ w).alloc (Nat.le_refl _) _).alloc (by simp) _).alloc (by simp; omega) _).drew
    · have hm : (m : Int) < 2 := by omega
      clear hn
      go_enter Try.func58, Try.ntmps58
      go_upto_region 2 with (fail)
      go_region
      go_wp2
      refine bodyPost_ret (v := .tuple #[ex0, ex0, .bool false]) (by simp [results, Try.results58, go_sem]) rfl ⟨rfl, ?_⟩
      exact ((((Below.refl _ w).alloc (Nat.le_refl _) _).alloc (by simp) _).alloc (by simp; omega) _).drew
set_option maxHeartbeats 1000000 in
set_option maxRecDepth 100000 in
theorem two_two (t a b : Ex) (ht : t.two = some (a, b)) (w : World) (S : Blocks) (V : Value) (hS : Sub S (Upto w.heap.size)) (r : RdE w S t V) :
    Calls Try.prog 58 #[V] w fun e w' => (∃ Va Vb, e = .returned (.tuple #[Va, Vb, .bool true]) ∧ RdE w' S a Va ∧ RdE w' S b Vb) ∧ Below w.heap.size w w' := by
  obtain ⟨k, c, s, args, v, rfl, rfl, _, _, _, hargs⟩ := r
  obtain ⟨hkk, r', hr'⟩ := Ex.two_kind ht
  simp only [Ex.kind, Ex.args] at hkk hr'
  subst hr'
  obtain ⟨A, cap, rfl, hcl, hcm, _⟩ := hargs.form
  have hl2 : 2 ≤ (a :: b :: r').length := by simp
  obtain ⟨b0, off, k0, c0, s0, v0, rfl, hsb, x0, x1, x2, x3, ra⟩ := RdExs.arg hargs (q := 0) (by simp)
  obtain ⟨b0', off', k1, c1, s1, v1, hA, hsb', y0, y1, y2, y3, rb⟩ := RdExs.arg hargs (q := 1) (by simp)
  injection hA with hA
  injection hA with e1 e2
  subst e1 e2
  simp only [List.getElem_cons_zero, List.getElem_cons_succ] at ra rb
  rw [Nat.zero_mul, Nat.add_zero] at x0 x1 x2 x3
  rw [Nat.one_mul] at y0 y1 y2 y3
  have RA := Lib.hid ra
  have RB := Lib.hid rb
  have HS := Lib.hid hS
  have hb0 : b0 < w.heap.size := hS _ hsb
  have hb01 : b0 < w.heap.size + 1 := by omega
  have hb02 : b0 < w.heap.size + 1 + 1 := by omega
  have hb03 : b0 < w.heap.size + 2 := by omega
  obtain ⟨A1, m1, n1, rfl⟩ := ra.slice
  obtain ⟨A2, m2, n2, rfl⟩ := rb.slice
  generalize (a :: b :: r').length = n at *
  clear ra rb hargs ht hS
  have hn0 : (0 : Int) < (n : Int) := by omega
  have hn00 : 0 < n := by omega
  have hn1 : (1 : Int) < (n : Int) := by omega
  have hk3 : ¬ k < 3 := by omega
  have hk9 : ¬ 9 < k := by omega
  have hn2 : ¬ (n : Int) < 2 := by omega
  clear hkk
  unfold exV
  unfold maxLen at hcm
  go_enter Try.func58, Try.ntmps58
  go_upto_region 3 with (fail)
  go_region
  go_wp2
  refine bodyPost_ret (v := .tuple #[.agg #[.int .i64 k0, .int .i64 c0, .string s0, .slice A1 m1 n1], .agg #[.int .i64 k1, .int .i64 c1, .string s1, .slice A2 m2 n2], .bool true]) (by simp [results, Try.results58, go_sem]) rfl ?_
  refine (fun bel => ⟨⟨_, _, rfl, RA.out.go bel HS.out, RB.out.go bel HS.out⟩, bel⟩ : Below w.heap.size w _ → _) ?_
  exact ((((Below.refl _ w).alloc (Nat.le_refl _) _).alloc (by simp) _).alloc (by simp; omega) _).drew
end Go.Proofs.Ytdelngmbpjgphaa
/- math/bits.Mul64 at this dump, by the shelf's contract. -/
namespace Go.Proofs.Ytdelngmbpjgphaa
open Go.Shelf Go.RowKit
set_option linter.unusedVariables false
def lays264_ren : Go.Shelf.Ren := ⟨fun | 264 => 75 | n => n, fun | 53 => 143 | 46 => 158 | n => n, fun | n => n⟩
theorem lays264 : Go.Proofs.Lays.n264 Try.prog lays264_ren where
  mixed := by kernel_rfl
  f264 := Try.func75.trans (congrArg some (by kernel_rfl))
  t46 := Try.underlying158
  a46 := Try.isAgg158
  z46 := Try.sizeOf158
  v46 := Try.zeroValue158
  t53 := Try.underlying143
  a53 := Try.isAgg143
  z53 := Try.sizeOf143
  v53 := Try.zeroValue143
theorem mul64_n (x y : Nat) (hx : x < 18446744073709551616) (hy : y < 18446744073709551616) (w : World) :
    Calls Try.prog 75 #[.int .u64 x, .int .u64 y] w fun e w' => e = .returned (.tuple #[.int .u64 ((x * y / 18446744073709551616 : Nat) : Int), .int .u64 ((x * y % 18446744073709551616 : Nat) : Int)]) ∧ w' = w := Any.bits_Mul64 lays264 x y hx hy w
end Go.Proofs.Ytdelngmbpjgphaa
