/- The walk of a heap's take. -/
import Derived.Test.YtkpjomoofopeaaaDoorHp2
namespace Go.Proofs.YtkpjomoofopeaaaDoor
open Go.RowKit
set_option linter.unusedVariables false
def lenH : Value → Nat
  | .slice _ n _ => n
  | _ => 0
/-- the first come out in order, the others stay -/
def Taken (l T r : List Int) : Prop := (T ++ r).Perm l ∧ T.Pairwise (· ≤ ·) ∧ ∀ t ∈ T, ∀ x ∈ r, t ≤ x
theorem Taken.start (l : List Int) : Taken l [] l := ⟨List.Perm.refl _, List.Pairwise.nil, fun t h => by cases h⟩
theorem Taken.step {l T r r' : List Int} (h : Taken l T r) (hh : isHp r) (hp : (atZ r 0 :: r').Perm r) : Taken l (T ++ [atZ r 0]) r' := by
  obtain ⟨h1, h2, h3⟩ := h
  have hx : atZ r 0 ∈ r := hp.mem_iff.1 (by simp)
  have hsub : ∀ x ∈ r', x ∈ r := fun x hx => hp.mem_iff.1 (List.mem_cons_of_mem _ hx)
  refine ⟨?_, ?_, ?_⟩
  · rw [List.append_assoc]
    exact (List.Perm.append_left T hp).trans h1
  · rw [List.pairwise_append]
    exact ⟨h2, by simp, fun a ha b hb => by rw [List.mem_singleton.1 hb]; exact h3 a ha _ hx⟩
  · intro t ht x hx'
    rcases List.mem_append.1 ht with ht | ht
    · exact h3 t ht x (hsub x hx')
    · rw [List.mem_singleton.1 ht]
      obtain ⟨i, hi, e⟩ := List.mem_iff_getElem.1 (hsub x hx')
      have := hp_least hh i hi
      rw [atZ_lt hi, e] at this
      exact this
/-- of a rising list the first ones, and the others -/
theorem taken_first : ∀ {T r S : List Int}, Taken S T r → S.Pairwise (· < ·) → T = S.take T.length ∧ r.Perm (S.drop T.length)
  | [], r, S, h, _ => ⟨by simp, by simpa using h.1⟩
  | t :: T, r, [], h, _ => by have := h.1.length_eq; simp at this
  | t :: T, r, s :: S, h, hs => by
    obtain ⟨h1, h2, h3⟩ := h
    have hs' := List.pairwise_cons.1 hs
    have h2' := List.pairwise_cons.1 h2
    have e : t = s := by
      have a : t ∈ s :: S := h1.mem_iff.1 (by simp)
      have b : s ∈ t :: (T ++ r) := h1.mem_iff.2 (by simp)
      rcases List.mem_cons.1 a with a | a
      · exact a
      · rcases List.mem_cons.1 b with b | b
        · exact b.symm
        · have l1 := hs'.1 t a
          have l2 : t ≤ s := by
            rcases List.mem_append.1 b with b | b
            · exact h2'.1 s b
            · exact h3 t (by simp) s b
          omega
    subst e
    obtain ⟨i1, i2⟩ := taken_first (T := T) (r := r) (S := S) ⟨h1.cons_inv, h2'.2, fun x hx y hy => h3 x (by simp [hx]) y hy⟩ hs'.2
    exact ⟨by simp only [List.length_cons, List.take_succ_cons]; rw [← i1], by simpa using i2⟩
/-- the blocks of X, and a row's own -/
def AndB (X : Blocks) (v : Value) : Blocks := fun k => X k ∨ v.ownBlock = some k
set_option maxHeartbeats 1600000 in
set_option maxRecDepth 100000 in
theorem htake_any (X : Blocks) (l : List Int) (hl : l.length ≤ 1000000) (k : Nat) (hk : k ≤ 1000000) (W : World) (p : Nat) (H : HeapAt X W p l) (hh : isHp l) :
    Calls Tryd.prog 25 #[.pointer (some ⟨p, 0, none⟩), .int .i64 (k : Int)] W fun e w' => ∃ T v r, e = .returned v ∧ OwnI 3 w' W.heap.size Nowhere T v ∧ HeapAt (AndB X v) w' p r ∧ isHp r ∧ Taken l T r ∧ T.length = min k l.length ∧ But (fun k => ¬ X k) W w' := by
  obtain ⟨i0, hi, hz0, hz1, hz2⟩ := info_parts infoHp
  have HX := Lib.hid (And.intro H.sub H.np)
  have HH := Lib.hid H
  have HI := Lib.hid hh
  have hpw : p < W.heap.size := by obtain ⟨_, B, _⟩ := H.ex; exact B.lt
  clear H hh
  go_enter Tryd.func25, Tryd.ntmps25
  go_wp2
  go_loopw [5] (fun o wr => ∃ (T r : List Int), T.length ≤ k ∧ Hid (OwnI 3 wr W.heap.size Nowhere T o) ∧ Hid (HeapAt (AndB X o) wr p r) ∧ Hid (isHp r) ∧ Hid (Taken l T r) ∧ Hid (But (fun k => ¬ X k) W wr)) (fun o _ => k - lenH o)
  case atStart => exact ⟨[], l, Nat.zero_le _, Lib.hid (OwnL.nil _ _ _), Lib.hid (HH.out.more (But.refl Nowhere _) (fun k h => h.elim) (fun k h => h.elim .inl (fun e => by simp [Value.ownBlock] at e)) (fun k h => h.elim (HX.out.1 k) (fun e => by simp [Value.ownBlock] at e))), HI, Lib.hid (Taken.start l), Lib.hid (But.refl _ _)⟩
  case round =>
    obtain ⟨T, r, hT, O, H, I, K, B⟩ := hrel
    obtain ⟨A, cap, rfl⟩ := O.out.form
    obtain ⟨v, Bp, Or, D⟩ := H.out.ex
    obtain ⟨A', cap', rfl⟩ := Or.form
    have k0 := Bp.cell 0 _ rfl
    have hlen : T.length + r.length = l.length := by have := K.out.1.length_eq; rwa [List.length_append] at this
    have hws := B.out.size
    clear Bp Or D
    by_cases h1 : T.length < k
    · by_cases h2 : 0 < r.length
      · skip
        have C := Lib.hid (pop_any _ r (by omega) h2 wr p H.out I.out)
        clear hlen
        go_wp2_with fail
        refine C.out.mono ?_
        rintro e w2 ⟨rfl, r', H2, I2, P2, B2⟩
        have O2 := Lib.hid (O.out.but B2 (fun k e hk => hk (.inr e)))
        have K2 := Lib.hid (K.out.step I.out P2)
        have B3 := Lib.hid (B.out.trans (B2.sub fun k h hk => h (.inl hk)))
        have HH2 := Lib.hid H2
        have II2 := Lib.hid I2
        have hw2 : W.heap.size ≤ w2.heap.size := B3.out.size
        have okx : inI (atZ r 0) := by
          obtain ⟨v, _, Or, _⟩ := H.out.ex
          rw [atZ_lt h2]
          exact OwnL.oks Or _ (List.getElem_mem _)
        generalize atZ r 0 = x at *
        clear H2 I2 P2 B2 C O H I K B k0
        go_wp2_with (at_builtin; refine wpList_append_one rfl _ _ 54 rfl i0 _ Tryd.underlying54 hi hz0 hz1 hz2 rfl (by decide) Flat.keeps O2.out (x := x) (cs := [Value.int .i64 x]) (Tx := Nowhere) ?d0 rfl rfl rfl (Sub.nowhere _) (Sub.nowhere _) not_nowhere ?d1 ?d2 ?d3 ?d4 ?_)
        case d0 => exact ⟨rfl, okx⟩
        case d1 => simp [Value.oneCell']
        case d2 => unfold maxLen; omega
        case d3 => omega
        try (case d4 => exact hw2)
        intro v3 w3 ho3 hg3 hk3
        have hlt3 := O2.out.lt
        have H3 := Lib.hid (show HeapAt (AndB X v3) w3 p r' from HH2.out.more (T := fun k => (Value.slice A T.length cap).ownBlock = some k) (But.of_grown hg3) (fun k e => .inr e)
          (fun k h => h.elim (fun h => .inl (.inl h)) (fun e => by
            rcases hk3 with h | h
            · exact .inl (.inr (by rw [← h]; exact e))
            · rw [h] at e; injection e with e; exact .inr (by omega)))
          (fun k h => h.elim (fun h => Nat.lt_of_lt_of_le (HX.out.1 k h) (Nat.le_trans hw2 hg3.size)) (fun e => (ho3.lt k e).2)))
        have B4 := Lib.hid (show But (fun k => ¬ X k) W w3 from B3.out.trans ((But.of_grown hg3).sub fun k e hk => by have h5 := (hlt3 k e).1; have h6 : k < W.heap.size := HX.out.1 k hk; omega))
        have HO3 := Lib.hid ho3
        have hl3 : (T ++ [x]).length = T.length + 1 := by simp
        clear hg3 hk3 ho3 hlt3 B3 HH2 O2
        obtain ⟨A3, c3, rfl⟩ := HO3.out.form
        rw [hl3] at HO3 H3 ⊢
        go_wp2_with fail
        go_roundw
        case rel => exact ⟨T ++ [x], r', by omega, HO3, H3, II2, K2, B4⟩
        case measure => simp [lenH]; omega
      · have h0 : r.length = 0 := by omega
        go_wp2_with fail
        go_ret
        exact ⟨T, _, r, rfl, O.out, H.out, I.out, K.out, by omega, B.out⟩
    · skip
      go_wp2_with fail
      go_ret
      exact ⟨T, _, r, rfl, O.out, H.out, I.out, K.out, by omega, B.out⟩
end Go.Proofs.YtkpjomoofopeaaaDoor
