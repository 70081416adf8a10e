/- Rows of statements of one's own; renaming, statement by statement. -/
import Derived.Test.YtoijobnpfibboaaDoorRnSpec
import Derived.Test.YtoijobnpfibboaaDoorScW
namespace Go.Proofs.YtoijobnpfibboaaDoor
open Go.RowKit
set_option linter.unusedVariables false
section
variable {α : Type} {rd : World → Blocks → α → List Value → Prop} {size bytes : Nat} {E : TypeId} {w w' : World} {base : Nat} {S S' T : Blocks} {l : List α} {v : Value}
theorem OwnL.butG (h : OwnL rd size E w base S l v) (hr : Keeps rd) (hb : But T w w') (hv : ∀ k, v.ownBlock = some k → ¬ T k) (hS : ∀ k, S k → ¬ T k) : OwnL rd size E w' base S l v := by
  obtain ⟨U, css, t1, t2, t3, h1, h2, h3, h4⟩ := h
  refine ⟨U, css, t1, t2.lift hb.size, t3, h1, h2, ?_, fun i e cs a b => hr _ _ _ _ _ _ (Sub.refl _) (hb.same t2 (fun k hk => hS k (t1 k hk))) (h4 i e cs a b)⟩
  obtain ⟨e, h3⟩ := h3
  refine ⟨e, ?_⟩
  rcases h3 with h3 | ⟨g, cap, cur, rfl, hbg, hg, hn, hcap, hsz, htake⟩
  · exact .inl h3
  · refine .inr ⟨g, cap, cur, rfl, hbg, ?_, hn, hcap, hsz, htake⟩
    rw [hb.block g (Array.getElem?_eq_some_iff.1 hg).1 (hv g rfl)]; exact hg
theorem OwnL.toRdB (h : OwnL rd size E w base S l v) (hr : Keeps rd) (hb : l.length * bytes ≤ 140737488355328) (hS : Sub S S') (hB : ∀ k, v.ownBlock = some k → S' k) : RdL rd size bytes w S' l v := by
  obtain ⟨T, css, t1, _, _, h1, h2, h3, h4⟩ := h
  rcases h3.2 with ⟨rfl, h0⟩ | ⟨g, cap, cur, rfl, hbg, hg, hn, hcap, hsz, htake⟩
  · have hl : l = [] := List.eq_nil_of_length_eq_zero h0
    subst hl
    exact RdL.nil (by simp [maxLen])
  · refine ⟨_, cap, css, rfl, hn, hcap, hb, h1, ⟨h2, fun _ => ⟨g, 0, rfl, hB g rfl, fun i cs hi j v hv => ?_⟩⟩, fun i e cs a b => hr _ _ _ _ _ _ (t1.trans hS) (Same.refl _ _) (h4 i e cs a b)⟩
    have h := h3.cells (g := g) rfl (i * size + j) v (flatten_at h2 hi hv)
    have hadd : (⟨g, 0, none⟩ : Addr).add (i * size + j) = ⟨g, 0 + (i * size + j), none⟩ := by unfold Addr.add; split <;> simp_all
    rwa [hadd] at h
end
theorem renS_env (s : St) (V : Env) (m : Nat) : ∃ X, (renS s V m).2.1 = X ++ V ∧ X.length ≤ 1 := by
  obtain ⟨k, n, a, b, body, els⟩ := s
  rw [renS]
  split
  · exact ⟨[(n, vN m)], rfl, by simp⟩
  · split
    · exact ⟨[], rfl, by simp⟩
    · split
      · exact ⟨[], rfl, by simp⟩
      · split
        · exact ⟨[], rfl, by simp⟩
        · split
          · exact ⟨[], rfl, by simp⟩
          · exact ⟨[], rfl, by simp⟩
theorem renP_env (V : Env) (m : Nat) : ∀ (k : Nat) (l : List St), l.length = k → ∃ X, (renP l V m).2.1 = X ++ V ∧ X.length ≤ l.length := by
  intro k
  induction k with
  | zero =>
    intro l hl
    obtain rfl := List.eq_nil_of_length_eq_zero hl
    exact ⟨[], rfl, by simp⟩
  | succ k ih =>
    intro l hl
    rcases List.eq_nil_or_concat l with rfl | ⟨l', s, rfl⟩
    · simp at hl
    · rw [List.concat_eq_append] at hl ⊢
      obtain ⟨X, h1, h2⟩ := ih l' (by simpa using hl)
      obtain ⟨Y, h3, h4⟩ := renS_env s (renP l' V m).2.1 (renP l' V m).2.2
      refine ⟨Y ++ X, ?_, by simp; omega⟩
      rw [renP_snoc]
      unfold stepR
      rw [h3, h1, List.append_assoc]
theorem len_wts (l : List St) : l.length ≤ St.wts l := by
  induction l with
  | nil => simp
  | cons s r ih => rw [St.wts]; have := s.wt_pos; simp; omega
theorem oneSt {w : World} {S : Blocks} : ∀ (e : St) (cs : List Value), RdSt w S e cs → ∀ u ∈ cs, u.oneCell' = true := by
  rintro e cs h u hu
  obtain ⟨k, s, a, b, body, els⟩ := e
  obtain ⟨k1, n1, s1, A1, m1, p1, k2, n2, s2, A2, m2, p2, A3, p3, A4, p4, rfl, hk, hs, ra, rb, rv, rv'⟩ := h.cells
  simp only [List.mem_cons, List.not_mem_nil, or_false] at hu
  rcases hu with rfl | rfl | rfl | rfl | rfl | rfl | rfl | rfl | rfl | rfl | rfl | rfl <;> rfl
theorem infoSt : (Tryd.prog.info? 31).map (fun i => (i.zero, i.size, i.bytes)) = some (some (.agg #[.int .i64 0, .string ⟨#[]⟩, .int .i64 0, .int .i64 0, .string ⟨#[]⟩, .slice none 0 0, .int .i64 0, .int .i64 0, .string ⟨#[]⟩, .slice none 0 0, .slice none 0 0, .slice none 0 0]), 12, 184) := by kernel_rfl
theorem renP_len (V : Env) (m : Nat) : ∀ (l : List St), (renP l V m).1.length = l.length := by
  intro l
  rw [(renP_L l V m).1]
  induction l generalizing V m with
  | nil => rw [renL]
  | cons s r ih => rw [renL]; simp only [List.length_cons, ih]
theorem rdG_one {α : Type} {rd : World → Blocks → α → List Value → Prop} {size bytes : Nat} {w : World} {S : Blocks} {g : Nat} {x : α} {cs : List Value} (hlen : cs.length = size) (h : ∀ (j : Nat) v, cs[j]? = some v → w.cell? ⟨g, j, none⟩ = some v) (hx : rd w S x cs) (hg : S g) (hb : bytes ≤ 140737488355328) : RdL rd size bytes w S [x] (.slice (some ⟨g, 0, none⟩) 1 1) := by
  refine ⟨_, 1, [cs], rfl, Nat.le_refl _, by simp [maxLen], by simpa using hb, rfl, ⟨fun c hc => by rw [List.mem_singleton.1 hc]; exact hlen, fun _ => ⟨g, 0, rfl, hg, fun i c hc j v hv => ?_⟩⟩, fun i e c he hc => ?_⟩
  · cases i with
    | zero =>
      simp only [List.getElem?_cons_zero, Option.some.injEq] at hc
      subst hc
      rw [Nat.zero_mul, Nat.zero_add, Nat.zero_add]
      exact h j v hv
    | succ i => simp at hc
  · cases i with
    | zero =>
      simp only [List.getElem?_cons_zero, Option.some.injEq] at he hc
      subst he; subst hc
      exact hx
    | succ i => simp at hc
theorem renS_let {k : Int} {s : Str} {a b : Ex} {body els : List St} {V : Env} {m : Nat} (h : k = 1 ∨ k = 2) : renS (.mk k s a b body els) V m = (.mk k (vN m) (renE V a) exZ [] [], (s, vN m) :: V, m + 1) := by rw [renS, if_pos h]
theorem renS_store {s : Str} {a b : Ex} {body els : List St} {V : Env} {m : Nat} : renS (.mk 3 s a b body els) V m = (.mk 3 noS (renE V a) (renE V b) [] [], V, m) := by rw [renS]; simp
theorem renS_blk {k : Int} {s : Str} {a b : Ex} {body els : List St} {V : Env} {m : Nat} (h : k = 4 ∨ k = 5) : renS (.mk k s a b body els) V m = (.mk k noS exZ exZ (renL body V m).1 [], V, (renL body V m).2) := by
  rw [renS, if_neg (by omega), if_neg (by omega), if_pos h]
theorem renS_if {s : Str} {a b : Ex} {body els : List St} {V : Env} {m : Nat} : renS (.mk 6 s a b body els) V m = (.mk 6 noS (renE V a) exZ (renL body V m).1 (renL els V (renL body V m).2).1, V, (renL els V (renL body V m).2).2) := by rw [renS]; simp
theorem renS_for {s : Str} {a b : Ex} {body els : List St} {V : Env} {m : Nat} : renS (.mk 7 s a b body els) V m = (.mk 7 (vN m) (renE V a) (renE V b) (renL body ((s, vN m) :: V) (m + 1)).1 [], V, (renL body ((s, vN m) :: V) (m + 1)).2) := by rw [renS]; simp
theorem renS_other {k : Int} {s : Str} {a b : Ex} {body els : List St} {V : Env} {m : Nat} (h : k < 1 ∨ 7 < k) : renS (.mk k s a b body els) V m = (.mk k noS exZ exZ [] [], V, m) := by
  rw [renS, if_neg (by omega), if_neg (by omega), if_neg (by omega), if_neg (by omega), if_neg (by omega)]
end Go.Proofs.YtoijobnpfibboaaDoor
