/- Texts merged: ScSpec, LbW, GrSpec. -/
import Derived.Test.YtnpgpcnkdocknaaDoorGRdEW
import Derived.Test.YtnpgpcnkdocknaaDoorGScW
import Derived.Test.YtnpgpcnkdocknaaDoorBase
namespace Go.Proofs.YtnpgpcnkdocknaaDoor
set_option linter.unusedVariables false
abbrev Str := ByteArray
instance decStr (s : Str) (l : List Str) : Decidable (s ∈ l) := decidable_of_iff (∃ x, x ∈ l ∧ x = s) (by simp)
/-- those of both, each once -/
def merge (a b : List Str) : List Str := b.foldl (fun out s => if s ∈ out then out else out ++ [s]) a
def lnot (names bound : List Str) : List Str := names.filter fun n => !decide (n ∈ bound)
theorem merge_nil (a : List Str) : merge a [] = a := rfl
theorem merge_snoc (a b : List Str) (x : Str) : merge a (b ++ [x]) = if x ∈ merge a b then merge a b else merge a b ++ [x] := by
  unfold merge; rw [List.foldl_append]; rfl
theorem merge_cons (a b : List Str) (x : Str) : merge a (x :: b) = merge (if x ∈ a then a else a ++ [x]) b := rfl
theorem mem_merge (b : List Str) : ∀ (a : List Str) (x : Str), x ∈ merge a b ↔ x ∈ a ∨ x ∈ b := by
  induction b with
  | nil => intro a x; simp [merge_nil]
  | cons y b ih =>
    intro a x
    rw [merge_cons, ih]
    by_cases h : y ∈ a
    · rw [if_pos h]
      constructor
      · rintro (h1 | h1)
        · exact .inl h1
        · exact .inr (List.mem_cons_of_mem _ h1)
      · rintro (h1 | h1)
        · exact .inl h1
        · rcases List.mem_cons.1 h1 with rfl | h2
          · exact .inl h
          · exact .inr h2
    · rw [if_neg h]
      simp [or_assoc]
theorem snocS {α : Type} {C : List α → Prop} (h0 : C []) (h1 : ∀ l x, C l → C (l ++ [x])) (l : List α) : C l := by
  have key : ∀ n, n ≤ l.length → C (l.take n) := by
    intro n
    induction n with
    | zero => intro _; rw [List.take_zero]; exact h0
    | succ n ih => intro h; rw [List.take_succ_eq_append_getElem (by omega)]; exact h1 _ _ (ih (by omega))
  have := key l.length (Nat.le_refl _)
  rwa [List.take_length] at this
theorem merge_assoc (a b c : List Str) : merge a (merge b c) = merge (merge a b) c := by
  induction c using snocS with
  | h0 => rfl
  | h1 c x ih =>
    rw [merge_snoc b, merge_snoc (merge a b), ← ih]
    by_cases h : x ∈ merge b c
    · rw [if_pos h, if_pos ((mem_merge _ _ _).2 (.inr h))]
    · rw [if_neg h, merge_snoc]
theorem merge_app (a b c : List Str) : merge a (b ++ c) = merge (merge a b) c := by
  unfold merge; rw [List.foldl_append]
theorem merge_nodup (b : List Str) : ∀ a : List Str, a.Nodup → (merge a b).Nodup := by
  induction b with
  | nil => intro a h; exact h
  | cons x b ih =>
    intro a h
    rw [merge_cons]
    by_cases hx : x ∈ a
    · rw [if_pos hx]; exact ih a h
    · rw [if_neg hx]
      apply ih
      rw [List.nodup_append]
      exact ⟨h, by simp, fun y hy z hz => by simp at hz; subst hz; exact fun e => hx (e ▸ hy)⟩
theorem nil_merge (b : List Str) (h : b.Nodup) : merge [] b = b := by
  induction b using snocS with
  | h0 => rfl
  | h1 b x ih =>
    rw [List.nodup_append] at h
    rw [merge_snoc, ih h.1, if_neg (fun hx => h.2.2 x hx x (by simp) rfl)]
/-- an expression's names, as they come first -/
def Ex.names (t : Ex) : List Str :=
  match h : t.two with
  | some (a, b) => merge a.names b.names
  | none => if t.kind = 2 then [t.name] else []
termination_by SizeOf.sizeOf t
decreasing_by all_goals (have hs := Ex.two_size h; omega)
theorem Ex.names_two {t a b : Ex} (h : t.two = some (a, b)) : t.names = merge a.names b.names := by
  rw [Ex.names]; split
  · rename_i a' b' h'; rw [h] at h'; simp at h'; obtain ⟨rfl, rfl⟩ := h'; rfl
  · rename_i h'; rw [h] at h'; cases h'
theorem Ex.names_none {t : Ex} (h : t.two = none) : t.names = if t.kind = 2 then [t.name] else [] := by
  rw [Ex.names]; split
  · rename_i a' b' h'; rw [h] at h'; cases h'
  · rfl
theorem Ex.names_nodup (t : Ex) : t.names.Nodup := by
  refine Ex.ind (motive := fun t => t.names.Nodup) ?_ ?_ t
  · intro t h; rw [Ex.names_none h]; split <;> simp
  · intro t a b h ha hb; rw [Ex.names_two h]; exact merge_nodup _ _ ha
def St.kind : St → Int | .mk k _ _ _ _ _ => k
def St.name : St → Str | .mk _ s _ _ _ _ => s
def bindsOf (s : St) : List Str := if s.kind = 1 ∨ s.kind = 2 then [s.name] else []
def bindsL (l : List St) : List Str := l.flatMap bindsOf
mutual
def oneF : St → List Str → List Str
  | .mk k s a b body els, B =>
    if k = 1 ∨ k = 2 then lnot a.names B
    else if k = 3 then merge (lnot a.names B) (lnot b.names B)
    else if k = 4 ∨ k = 5 then lfree body B
    else if k = 6 then merge (lnot a.names B) (merge (lfree body B) (lfree els B))
    else if k = 7 then merge (merge (lnot a.names B) (lnot b.names B)) (lfree body (B ++ [s]))
    else []
def lfree : List St → List Str → List Str
  | [], _ => []
  | s :: rest, B => merge (oneF s B) (lfree rest (B ++ bindsOf s))
end
mutual
def labelsS : St → Nat
  | .mk k s a b body els => (if k = 2 ∨ k = 3 then 1 else 0) + (if k = 4 ∨ k = 5 ∨ k = 6 ∨ k = 7 then labelsL body else 0) + (if k = 6 then labelsL els else 0)
def labelsL : List St → Nat
  | [] => 0
  | s :: r => labelsS s + labelsL r
end
theorem lfree_snoc (l : List St) : ∀ (F B : List Str) (s : St), merge F (lfree (l ++ [s]) B) = merge (merge F (lfree l B)) (oneF s (B ++ bindsL l)) := by
  induction l with
  | nil =>
    intro F B s
    show merge F (lfree [s] B) = _
    unfold lfree
    rw [merge_assoc]
    unfold lfree
    simp [merge_nil, bindsL]
  | cons t l ih =>
    intro F B s
    show merge F (lfree (t :: (l ++ [s])) B) = _
    rw [show lfree (t :: (l ++ [s])) B = merge (oneF t B) (lfree (l ++ [s]) (B ++ bindsOf t)) by rw [lfree]]
    rw [show lfree (t :: l) B = merge (oneF t B) (lfree l (B ++ bindsOf t)) by rw [lfree]]
    rw [merge_assoc, ih, merge_assoc]
    simp [bindsL, List.append_assoc]
theorem lnot_nodup {a B : List Str} (h : a.Nodup) : (lnot a B).Nodup := h.filter _
theorem oneF_nodup (s : St) (hl : ∀ (l : List St) (B : List Str), SizeOf.sizeOf l < SizeOf.sizeOf s → (lfree l B).Nodup) (B : List Str) : (oneF s B).Nodup := by
  obtain ⟨k, n, a, b, body, els⟩ := s
  have h1 : SizeOf.sizeOf body < SizeOf.sizeOf (St.mk k n a b body els) := by simp; omega
  have h2 : SizeOf.sizeOf els < SizeOf.sizeOf (St.mk k n a b body els) := by simp; omega
  have na := lnot_nodup (B := B) (Ex.names_nodup a)
  rw [oneF]
  repeat' split
  · exact na
  · exact merge_nodup _ _ na
  · exact hl _ _ h1
  · exact merge_nodup _ _ na
  · exact merge_nodup _ _ (merge_nodup _ _ na)
  · exact List.nodup_nil
theorem lfree_nodup (m : Nat) : ∀ (l : List St), SizeOf.sizeOf l ≤ m → ∀ B, (lfree l B).Nodup := by
  induction m with
  | zero => intro l h; cases l with
    | nil => intro B; rw [lfree]; exact List.nodup_nil
    | cons s r => simp at h
  | succ m ih =>
    intro l h B
    cases l with
    | nil => rw [lfree]; exact List.nodup_nil
    | cons s r =>
      rw [lfree]
      refine merge_nodup _ _ (oneF_nodup s (fun l B hl => ih l ?_ B) B)
      simp at h; omega
theorem free_eq_lfree (l : List St) : merge [] (lfree l []) = lfree l [] := nil_merge _ (lfree_nodup _ l (Nat.le_refl _) _)
end Go.Proofs.YtnpgpcnkdocknaaDoor
namespace Go.Proofs.YtnpgpcnkdocknaaDoor
open Go.RowKit
set_option linter.unusedVariables false
theorem labelsS_le (s : St) (hl : ∀ (l : List St), SizeOf.sizeOf l < SizeOf.sizeOf s → labelsL l ≤ St.wts l) : labelsS s ≤ s.wt := by
  obtain ⟨k, n, a, b, body, els⟩ := s
  have h1 := hl body (by simp; omega)
  have h2 := hl els (by simp; omega)
  rw [labelsS, St.wt]
  have : (if k = 2 ∨ k = 3 then 1 else 0) ≤ 1 := by split <;> omega
  have : (if k = 4 ∨ k = 5 ∨ k = 6 ∨ k = 7 then labelsL body else 0) ≤ labelsL body := by split <;> omega
  have : (if k = 6 then labelsL els else 0) ≤ labelsL els := by split <;> omega
  omega
theorem labelsL_le' (m : Nat) : ∀ (l : List St), SizeOf.sizeOf l ≤ m → labelsL l ≤ St.wts l := by
  induction m with
  | zero => intro l h; cases l with
    | nil => rw [labelsL]; simp
    | cons s r => simp at h
  | succ m ih =>
    intro l h
    cases l with
    | nil => rw [labelsL]; simp
    | cons s r =>
      simp at h
      rw [labelsL, St.wts]
      have h1 := labelsS_le s (fun l hl => ih l (by omega))
      have h2 := ih r (by omega)
      omega
theorem labelsL_le (l : List St) : labelsL l ≤ St.wts l := labelsL_le' _ l (Nat.le_refl _)
theorem labelsL_snoc (l : List St) (s : St) : labelsL (l ++ [s]) = labelsL l + labelsS s := by
  induction l with
  | nil => simp [labelsL]
  | cons t r ih => rw [List.cons_append, labelsL, labelsL, ih]; omega
theorem labels_acc {k : Int} {s : Str} {a b : Ex} {body els : List St} (h : k = 2 ∨ k = 3) : labelsS (.mk k s a b body els) = 1 := by
  rw [labelsS, if_pos h, if_neg (by omega), if_neg (by omega)]
theorem labels_one {k : Int} {s : Str} {a b : Ex} {body els : List St} (h : k = 4 ∨ k = 5 ∨ k = 7) : labelsS (.mk k s a b body els) = labelsL body := by
  rw [labelsS, if_neg (by omega), if_pos (by omega), if_neg (by omega)]; omega
theorem labels_if {s : Str} {a b : Ex} {body els : List St} : labelsS (.mk 6 s a b body els) = labelsL body + labelsL els := by rw [labelsS]; simp
theorem labels_other {k : Int} {s : Str} {a b : Ex} {body els : List St} (h : k < 2 ∨ 7 < k) : labelsS (.mk k s a b body els) = 0 := by
  rw [labelsS, if_neg (by omega), if_neg (by omega), if_neg (by omega)]
def LBs (f : FuncId) (l : List St) : Prop := ∀ (w : World) (S : Blocks) (v : Value), Sub S (Upto w.heap.size) → RdSts w S l v → St.wts l ≤ 1048576 →
  Calls Tryd.prog f #[v] w fun e w' => e = .returned (.int .i64 (labelsL l : Int)) ∧ Below w.heap.size w w'
end Go.Proofs.YtnpgpcnkdocknaaDoor
namespace Go.Proofs.YtnpgpcnkdocknaaDoor
set_option linter.unusedVariables false
theorem sub_len : ∀ {l m : List Nat}, l.Nodup → (∀ x ∈ l, x ∈ m) → l.length ≤ m.length
  | [], m, _, _ => Nat.zero_le _
  | x :: l, m, hn, h => by
    have hn' := List.nodup_cons.1 hn
    have hx : x ∈ m := h x (by simp)
    have : ∀ y ∈ l, y ∈ m.erase x := fun y hy => (List.mem_erase_of_ne (fun e : y = x => hn'.1 (by rw [← e]; exact hy))).2 (h y (by simp [hy]))
    have := sub_len hn'.2 this
    rw [List.length_erase_of_mem hx] at this
    have := List.length_pos_of_mem hx
    simp only [List.length_cons]; omega
theorem nodup_le {l : List Nat} {N : Nat} (hn : l.Nodup) (h : ∀ x ∈ l, x < N) : l.length ≤ N := by
  have := sub_len (m := List.range N) hn (fun x hx => List.mem_range.2 (h x hx))
  simpa using this
theorem nodup_snoc {l : List Nat} {x : Nat} (hn : l.Nodup) (hx : x ∉ l) : (l ++ [x]).Nodup := by
  rw [List.nodup_append]
  exact ⟨hn, by simp, fun a ha b hb e => hx (by rw [← List.mem_singleton.1 hb, ← e]; exact ha)⟩
/-- those behind n, edge by edge -/
def nxE (es : List (Nat × Nat)) (n : Nat) : List Nat := (es.filter (fun e => e.1 == n)).map (·.2)
/-- for how many m waits, where those in out have been taken -/
def wtE (es : List (Nat × Nat)) (out : List Nat) (m : Nat) : Nat := es.countP (fun e => e.2 == m && !out.contains e.1)
def rdyE (es : List (Nat × Nat)) (out : List Nat) (m : Nat) : Bool := !out.contains m && wtE es out m == 0
def takeL (N : Nat) (es : List (Nat × Nat)) : Nat → List Nat → List Nat
  | 0, out => out
  | f + 1, out => match (List.range N).find? (rdyE es out) with
    | none => out
    | some n => takeL N es f (out ++ [n])
def takeG (N : Nat) (es : List (Nat × Nat)) : List Nat := takeL N es N []
theorem nxE_snoc (es : List (Nat × Nat)) (e : Nat × Nat) (n : Nat) : nxE (es ++ [e]) n = if e.1 = n then nxE es n ++ [e.2] else nxE es n := by
  unfold nxE
  rw [List.filter_append, List.map_append]
  by_cases h : e.1 = n
  · rw [if_pos h]; simp [h]
  · rw [if_neg h]; simp [h]
theorem nxE_mem {es : List (Nat × Nat)} {n m : Nat} : m ∈ nxE es n ↔ (n, m) ∈ es := by
  unfold nxE
  simp only [List.mem_map, List.mem_filter, beq_iff_eq]
  constructor
  · rintro ⟨⟨a, b⟩, ⟨h1, h2⟩, h3⟩
    simp only at h2 h3
    subst h2; subst h3; exact h1
  · intro h; exact ⟨(n, m), ⟨h, rfl⟩, rfl⟩
theorem nxE_len (es : List (Nat × Nat)) (n : Nat) : (nxE es n).length ≤ es.length := by
  unfold nxE; rw [List.length_map]; exact List.length_filter_le _ _
theorem wtE_snoc (es : List (Nat × Nat)) (e : Nat × Nat) (m : Nat) : wtE (es ++ [e]) [] m = if e.2 = m then wtE es [] m + 1 else wtE es [] m := by
  unfold wtE
  rw [List.countP_append]
  by_cases h : e.2 = m
  · rw [if_pos h]; simp [h]
  · rw [if_neg h]; simp [h]
theorem wtE_le (es : List (Nat × Nat)) (out : List Nat) (m : Nat) : wtE es out m ≤ es.length := List.countP_le_length
theorem wtE_take (es : List (Nat × Nat)) {out : List Nat} {n : Nat} (hn : n ∉ out) (m : Nat) : wtE es (out ++ [n]) m + (nxE es n).count m = wtE es out m := by
  induction es with
  | nil => rfl
  | cons e es ih =>
    unfold wtE nxE at *
    rw [List.countP_cons, List.countP_cons]
    have hc : (out ++ [n]).contains e.1 = (out.contains e.1 || e.1 == n) := by
      rw [Bool.eq_iff_iff]; simp
    by_cases h1 : e.1 = n
    · have h2 : out.contains e.1 = false := by rw [h1]; simpa using hn
      rw [hc, h2]
      by_cases h3 : e.2 = m
      · simp [h1, h3] at ih ⊢; omega
      · simp [h1, h3] at ih ⊢; omega
    · rw [hc]
      have h4 : (e.1 == n) = false := by simpa using h1
      rw [List.filter_cons_of_neg (by simpa using h1), h4, Bool.or_false]
      omega
theorem wtE_zero {es : List (Nat × Nat)} {out : List Nat} {m : Nat} : wtE es out m = 0 ↔ ∀ a, (a, m) ∈ es → a ∈ out := by
  unfold wtE
  rw [List.countP_eq_zero]
  constructor
  · intro h a ha
    have := h (a, m) ha
    simpa using this
  · rintro h ⟨a, b⟩ he
    simp only [Bool.and_eq_true, beq_iff_eq, Bool.not_eq_true', not_and]
    intro e
    subst e
    simp [h a he]
theorem rdyE_iff {es : List (Nat × Nat)} {out : List Nat} {m : Nat} : rdyE es out m = true ↔ m ∉ out ∧ ∀ a, (a, m) ∈ es → a ∈ out := by
  unfold rdyE
  rw [Bool.and_eq_true, beq_iff_eq, wtE_zero]
  simp
/-- what has been taken so far -/
structure GO (N : Nat) (es : List (Nat × Nat)) (out : List Nat) : Prop where
  nd : out.Nodup
  lt : ∀ x ∈ out, x < N
  bef : ∀ (i b : Nat), out[i]? = some b → ∀ a, (a, b) ∈ es → a ∈ out.take i
theorem GO.nil (N : Nat) (es : List (Nat × Nat)) : GO N es [] := ⟨by simp, by simp, by simp⟩
theorem GO.len {N : Nat} {es : List (Nat × Nat)} {out : List Nat} (h : GO N es out) : out.length ≤ N := nodup_le h.nd h.lt
theorem GO.pre {N : Nat} {es : List (Nat × Nat)} {out : List Nat} (h : GO N es out) {a b : Nat} (hb : b ∈ out) (he : (a, b) ∈ es) : a ∈ out := by
  obtain ⟨i, hi, e⟩ := List.getElem_of_mem hb
  exact List.mem_of_mem_take (h.bef i b (by rw [← e]; exact List.getElem?_eq_getElem hi) a he)
theorem GO.snoc {N : Nat} {es : List (Nat × Nat)} {out : List Nat} (h : GO N es out) {n : Nat} (hn : n < N) (hr : rdyE es out n = true) : GO N es (out ++ [n]) := by
  obtain ⟨h1, h2⟩ := rdyE_iff.1 hr
  refine ⟨nodup_snoc h.nd h1, ?_, ?_⟩
  · intro x hx
    rcases List.mem_append.1 hx with hx | hx
    · exact h.lt x hx
    · rw [List.mem_singleton.1 hx]; exact hn
  · intro i b hi a ha
    rcases Nat.lt_or_ge i out.length with hlt | hge
    · rw [List.getElem?_append_left hlt] at hi
      rw [List.take_append_of_le_length (by omega)]
      exact h.bef i b hi a ha
    · have hi0 : i = out.length := by
        have := (List.getElem?_eq_some_iff.1 hi).1
        simp at this; omega
      subst hi0
      simp at hi
      subst hi
      rw [List.take_left]
      exact h2 a ha
/-- the least that is ready -/
def leastE (N : Nat) (es : List (Nat × Nat)) (out : List Nat) : Option Nat := (List.range N).find? (rdyE es out)
theorem least_some {N : Nat} {es : List (Nat × Nat)} {out : List Nat} {n : Nat} (h : leastE N es out = some n) : n < N ∧ rdyE es out n = true :=
  ⟨List.mem_range.1 (List.mem_of_find?_eq_some h), List.find?_some h⟩
theorem takeL_some {N : Nat} {es : List (Nat × Nat)} {out : List Nat} {n : Nat} (hg : GO N es out) (h : leastE N es out = some n) : takeL N es (N - out.length) out = takeL N es (N - (out ++ [n]).length) (out ++ [n]) ∧ out.length < N := by
  obtain ⟨h1, h2⟩ := least_some h
  have h3 := (hg.snoc h1 h2).len
  simp only [List.length_append, List.length_singleton] at h3
  have e : N - out.length = (N - (out.length + 1)) + 1 := by omega
  refine ⟨?_, by omega⟩
  rw [e]
  conv => lhs; unfold takeL
  unfold leastE at h
  rw [h]
  simp
theorem takeL_none {N : Nat} {es : List (Nat × Nat)} {out : List Nat} (h : leastE N es out = none) (f : Nat) : takeL N es f out = out := by
  cases f with
  | zero => rfl
  | succ f =>
    unfold takeL
    unfold leastE at h
    rw [h]
/-- how the taking ends -/
theorem takeL_end {N : Nat} {es : List (Nat × Nat)} : ∀ (d : Nat) {out : List Nat}, GO N es out → N - out.length = d → GO N es (takeL N es d out) ∧ leastE N es (takeL N es d out) = none := by
  intro d
  induction d with
  | zero =>
    intro out hg hd
    cases hl : leastE N es out with
    | none => rw [takeL_none hl]; exact ⟨hg, hl⟩
    | some n => have := (takeL_some hg hl).2; omega
  | succ d ih =>
    intro out hg hd
    cases hl : leastE N es out with
    | none => rw [takeL_none hl]; exact ⟨hg, hl⟩
    | some n =>
      obtain ⟨h1, h2⟩ := least_some hl
      have h3 := (takeL_some hg hl).1
      rw [hd] at h3
      have h4 : N - (out ++ [n]).length = d := by simp; omega
      rw [h3, h4]
      exact ih (hg.snoc h1 h2) h4
theorem takeG_end (N : Nat) (es : List (Nat × Nat)) : GO N es (takeG N es) ∧ leastE N es (takeG N es) = none := takeL_end N (GO.nil N es) (by simp)
/-- ways through nodes below k only -/
def wsh (E : Nat → Nat → Bool) : Nat → Nat → Nat → Bool
  | 0, i, j => E i j
  | k + 1, i, j => wsh E k i j || (wsh E k i k && wsh E k k j)
theorem wsh_mono {E : Nat → Nat → Bool} {k i j : Nat} (h : wsh E k i j = true) : wsh E (k + 1) i j = true := by
  unfold wsh; rw [h]; rfl
theorem wsh_edge {E : Nat → Nat → Bool} {i j : Nat} (h : E i j = true) (k : Nat) : wsh E k i j = true := by
  induction k with
  | zero => exact h
  | succ k ih => exact wsh_mono ih
theorem wsh_to (E : Nat → Nat → Bool) (k i : Nat) : wsh E (k + 1) i k = wsh E k i k := by
  conv => lhs; unfold wsh
  cases wsh E k i k <;> simp
theorem wsh_from (E : Nat → Nat → Bool) (k j : Nat) : wsh E (k + 1) k j = wsh E k k j := by
  conv => lhs; unfold wsh
  cases wsh E k k j <;> simp
theorem wsh_trans {E : Nat → Nat → Bool} : ∀ (k : Nat) {i m j : Nat}, m < k → wsh E k i m = true → wsh E k m j = true → wsh E k i j = true := by
  intro k
  induction k with
  | zero => intro i m j h; omega
  | succ k ih =>
    intro i m j hm h1 h2
    rcases Nat.lt_or_ge m k with h | h
    · unfold wsh at h1 h2 ⊢
      simp only [Bool.or_eq_true, Bool.and_eq_true] at h1 h2 ⊢
      rcases h1 with h1 | ⟨h1, h1'⟩ <;> rcases h2 with h2 | ⟨h2, h2'⟩
      · exact .inl (ih h h1 h2)
      · exact .inr ⟨ih h h1 h2, h2'⟩
      · exact .inr ⟨h1, ih h h1' h2⟩
      · exact .inr ⟨h1, h2'⟩
    · obtain rfl : m = k := by omega
      rw [wsh_to] at h1
      rw [wsh_from] at h2
      unfold wsh
      rw [h1, h2]; simp
theorem wsh_rank {E : Nat → Nat → Bool} {r : Nat → Nat} (h : ∀ i j, E i j = true → r i < r j) : ∀ (k : Nat) {i j : Nat}, wsh E k i j = true → r i < r j := by
  intro k
  induction k with
  | zero => intro i j hw; exact h i j hw
  | succ k ih =>
    intro i j hw
    unfold wsh at hw
    simp only [Bool.or_eq_true, Bool.and_eq_true] at hw
    rcases hw with hw | ⟨h1, h2⟩
    · exact ih hw
    · exact Nat.lt_trans (ih h1) (ih h2)
def edB (es : List (Nat × Nat)) (i j : Nat) : Bool := es.contains (i, j)
theorem edB_iff {es : List (Nat × Nat)} {i j : Nat} : edB es i j = true ↔ (i, j) ∈ es := by simp [edB]
/-- which node leads to which -/
def waysE (N : Nat) (es : List (Nat × Nat)) : Nat → Nat → Bool := wsh (edB es) N
/-- does it go round? -/
def roundE (N : Nat) (es : List (Nat × Nat)) : Bool := (List.range N).any fun n => waysE N es n n
theorem GO.full {N : Nat} {es : List (Nat × Nat)} {out : List Nat} (h : GO N es out) (hl : out.length = N) {n : Nat} (hn : n < N) : n ∈ out := by
  apply Classical.byContradiction
  intro hc
  have := nodup_le (l := n :: out) (N := N) (List.nodup_cons.2 ⟨hc, h.nd⟩) (fun x hx => by
    rcases List.mem_cons.1 hx with rfl | hx
    · exact hn
    · exact h.lt x hx)
  simp at this
  omega
theorem GO.rank {N : Nat} {es : List (Nat × Nat)} {out : List Nat} (h : GO N es out) {a b : Nat} (hb : b ∈ out) (he : (a, b) ∈ es) : out.idxOf a < out.idxOf b := by
  have hi := List.idxOf_lt_length_of_mem hb
  have := h.bef (out.idxOf b) b (by rw [List.getElem?_eq_getElem hi]; simp) a he
  obtain ⟨k, hk, e⟩ := List.getElem_of_mem this
  have hk' : k < out.idxOf b ∧ k < out.length := by simp at hk; omega
  rw [List.getElem_take] at e
  have : out.idxOf a ≤ k := by
    rw [← e]
    exact Nat.le_of_eq (h.nd.idxOf_getElem k hk'.2)
  omega
theorem round_eq {N : Nat} {es : List (Nat × Nat)} (hv : ∀ a b, (a, b) ∈ es → a < N ∧ b < N) : decide ((takeG N es).length < N) = roundE N es := by
  obtain ⟨hg, hl⟩ := takeG_end N es
  generalize takeG N es = out at hg hl
  have hlen := hg.len
  rw [Bool.eq_iff_iff]
  unfold roundE waysE
  simp only [decide_eq_true_eq, List.any_eq_true, List.mem_range]
  constructor
  · intro hlt
    apply Classical.byContradiction
    intro hno
    have hirr : ∀ n, n < N → wsh (edB es) N n n = false := fun n hn => by
      apply Bool.eq_false_iff.2
      intro h; exact hno ⟨n, hn, h⟩
    have hex : ∃ n, n < N ∧ n ∉ out := by
      apply Classical.byContradiction
      intro hc
      have : ∀ x ∈ List.range N, x ∈ out := fun x hx => Classical.byContradiction fun h => hc ⟨x, List.mem_range.1 hx, h⟩
      have := sub_len List.nodup_range this
      simp at this
      omega
    have key : ∀ (c n : Nat), ((List.range N).filter (fun m => wsh (edB es) N m n)).length = c → n < N → n ∉ out → False := by
      intro c
      induction c using Nat.strongRecOn with
      | _ c ih =>
        intro n hc hn hno
        have hr : rdyE es out n = false := by
          have := List.find?_eq_none.1 hl n (List.mem_range.2 hn)
          simpa using this
        have hw : ∃ a, (a, n) ∈ es ∧ a ∉ out := by
          apply Classical.byContradiction
          intro h
          have : rdyE es out n = true := rdyE_iff.2 ⟨hno, fun a ha => Classical.byContradiction fun h' => h ⟨a, ha, h'⟩⟩
          rw [hr] at this; exact absurd this (by simp)
        obtain ⟨a, ha, hao⟩ := hw
        have haN := (hv a n ha).1
        have hwa : wsh (edB es) N a n = true := wsh_edge (edB_iff.2 ha) N
        have hle := sub_len (l := a :: (List.range N).filter (fun m => wsh (edB es) N m a)) (m := (List.range N).filter (fun m => wsh (edB es) N m n))
          (List.nodup_cons.2 ⟨by simp [hirr a haN], List.nodup_range.filter _⟩)
          (fun x hx => by
            rcases List.mem_cons.1 hx with rfl | hx
            · exact List.mem_filter.2 ⟨List.mem_range.2 haN, hwa⟩
            · obtain ⟨h1, h2⟩ := List.mem_filter.1 hx
              exact List.mem_filter.2 ⟨h1, wsh_trans N haN h2 hwa⟩)
        simp only [List.length_cons] at hle
        exact ih _ (by omega) a rfl haN hao
    obtain ⟨n, hn, hno⟩ := hex
    exact key _ n rfl hn hno
  · rintro ⟨n, hn, hw⟩
    apply Classical.byContradiction
    intro hc
    have hlN : out.length = N := by omega
    have := wsh_rank (r := fun n => out.idxOf n) (E := edB es) (fun i j h => hg.rank (hg.full hlN (hv i j (edB_iff.1 h)).2) (edB_iff.1 h)) N hw
    exact Nat.lt_irrefl _ this
end Go.Proofs.YtnpgpcnkdocknaaDoor
