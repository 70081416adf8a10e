/- Texts merged: Data, Two, ScSpec. -/
import Derived.Test.YtdelngmbpjgphaaBase
/- The recursive data of the program as plain Lean data, and what it means that cells read as such data. -/
namespace Go.Proofs.Ytdelngmbpjgphaa
open Go.RowKit
set_option linter.unusedVariables false

inductive Ex where
  | mk (kind n : Int) (name : ByteArray) (args : List Ex)
inductive St where
  | mk (kind : Int) (name : ByteArray) (a b : Ex) (body els : List St)
inductive Tm where
  | mk (kind cell : Int) (write : Bool) (label : Int) (kids : List Tm)

def Ex.kind : Ex → Int | .mk k _ _ _ => k
def Ex.num : Ex → Int | .mk _ n _ _ => n
def Ex.name : Ex → ByteArray | .mk _ _ s _ => s
def Ex.args : Ex → List Ex | .mk _ _ _ a => a

inductive RdEx (w : World) (S : Blocks) : Ex → List Value → Prop
  | mk (k n : Int) (s : ByteArray) (args : List Ex) (A : Option Addr) (cap : Nat) (css : List (List Value)) (hk : inI k) (hn : inI n) (hs : s.size ≤ 140737488355328)
      (hl : args.length ≤ cap) (hm : cap ≤ maxLen) (hc : args.length * 56 ≤ 140737488355328) (hcl : css.length = args.length) (ha : Arr w S 4 A css) (hr : ∀ (i : Nat) e cs, args[i]? = some e → css[i]? = some cs → RdEx w S e cs) :
      RdEx w S (.mk k n s args) [.int .i64 k, .int .i64 n, .string s, .slice A args.length cap]
abbrev RdExs := RdL RdEx 4 56
theorem RdEx.keeps : Keeps RdEx := by
  intro w w' S S' x cs hB hk h
  induction h with
  | mk k n s args A cap css hkk hn hs hl hm hc hcl ha hr ih => exact .mk k n s args A cap css hkk hn hs hl hm hc hcl (ha.keep hB hk) ih
theorem RdEx.len {w : World} {S : Blocks} {e : Ex} {cs : List Value} (h : RdEx w S e cs) : cs.length = 4 := by cases h; rfl
theorem RdEx.open_ {w : World} {S : Blocks} {k n : Int} {s : ByteArray} {args : List Ex} {cs : List Value} (h : RdEx w S (.mk k n s args) cs) :
    inI k ∧ inI n ∧ s.size ≤ 140737488355328 ∧ ∃ v, cs = [.int .i64 k, .int .i64 n, .string s, v] ∧ RdExs w S args v := by
  cases h with
  | mk _ _ _ _ A cap css hkk hn hs hl hm hc hcl ha hr => exact ⟨hkk, hn, hs, _, rfl, A, cap, css, rfl, hl, hm, hc, hcl, ha, hr⟩
theorem RdEx.shut {w : World} {S : Blocks} {k n : Int} {s : ByteArray} {args : List Ex} {v : Value} (hk : inI k) (hn : inI n) (hs : s.size ≤ 140737488355328) (h : RdExs w S args v) :
    RdEx w S (.mk k n s args) [.int .i64 k, .int .i64 n, .string s, v] := by
  obtain ⟨A, cap, css, rfl, hl, hm, hc, hcl, ha, hr⟩ := h
  exact .mk k n s args A cap css hk hn hs hl hm hc hcl ha hr

theorem RdEx.cells {w : World} {S : Blocks} {e : Ex} {cs : List Value} (h : RdEx w S e cs) : ∃ k n s A c c', cs = [.int .i64 k, .int .i64 n, .string s, .slice A c c'] := by
  cases h with
  | mk k n s args A cap css _ _ _ _ _ _ _ _ _ => exact ⟨k, n, s, A, _, cap, rfl⟩

inductive RdSt (w : World) (S : Blocks) : St → List Value → Prop
  | mk (k : Int) (s : ByteArray) (a b : Ex) (body els : List St) (a0 a1 a2 a3 b0 b1 b2 b3 : Value) (A A' : Option Addr) (cap cap' : Nat) (css css' : List (List Value)) (hk : inI k) (hs : s.size ≤ 140737488355328)
      (h1 : RdEx w S a [a0, a1, a2, a3]) (h2 : RdEx w S b [b0, b1, b2, b3])
      (hl : body.length ≤ cap) (hm : cap ≤ maxLen) (hc : body.length * 184 ≤ 140737488355328) (hcl : css.length = body.length) (ha : Arr w S 12 A css) (hr : ∀ (i : Nat) e cs, body[i]? = some e → css[i]? = some cs → RdSt w S e cs)
      (hl' : els.length ≤ cap') (hm' : cap' ≤ maxLen) (hc' : els.length * 184 ≤ 140737488355328) (hcl' : css'.length = els.length) (ha' : Arr w S 12 A' css') (hr' : ∀ (i : Nat) e cs, els[i]? = some e → css'[i]? = some cs → RdSt w S e cs) :
      RdSt w S (.mk k s a b body els) [.int .i64 k, .string s, a0, a1, a2, a3, b0, b1, b2, b3, .slice A body.length cap, .slice A' els.length cap']
abbrev RdSts := RdL RdSt 12 184
theorem RdSt.keeps : Keeps RdSt := by
  intro w w' S S' x cs hB hk h
  induction h with
  | mk k s a b body els a0 a1 a2 a3 b0 b1 b2 b3 A A' cap cap' css css' hkk hs h1 h2 hl hm hc hcl ha hr hl' hm' hc' hcl' ha' hr' ih ih' =>
    exact .mk k s a b body els a0 a1 a2 a3 b0 b1 b2 b3 A A' cap cap' css css' hkk hs (RdEx.keeps _ _ _ _ _ _ hB hk h1) (RdEx.keeps _ _ _ _ _ _ hB hk h2) hl hm hc hcl (ha.keep hB hk) ih hl' hm' hc' hcl' (ha'.keep hB hk) ih'
theorem RdSt.open_ {w : World} {S : Blocks} {k : Int} {s : ByteArray} {a b : Ex} {body els : List St} {cs : List Value} (h : RdSt w S (.mk k s a b body els) cs) :
    inI k ∧ s.size ≤ 140737488355328 ∧ ∃ a0 a1 a2 a3 b0 b1 b2 b3 v v', cs = [.int .i64 k, .string s, a0, a1, a2, a3, b0, b1, b2, b3, v, v'] ∧ RdEx w S a [a0, a1, a2, a3] ∧ RdEx w S b [b0, b1, b2, b3] ∧ RdSts w S body v ∧ RdSts w S els v' := by
  cases h with
  | mk _ _ _ _ _ _ a0 a1 a2 a3 b0 b1 b2 b3 A A' cap cap' css css' hkk hs h1 h2 hl hm hc hcl ha hr hl' hm' hc' hcl' ha' hr' =>
    exact ⟨hkk, hs, a0, a1, a2, a3, b0, b1, b2, b3, _, _, rfl, h1, h2, ⟨A, cap, css, rfl, hl, hm, hc, hcl, ha, hr⟩, ⟨A', cap', css', rfl, hl', hm', hc', hcl', ha', hr'⟩⟩
/-- every cell of a statement written out -/
theorem RdSt.cells {w : World} {S : Blocks} {k : Int} {s : ByteArray} {a b : Ex} {body els : List St} {cs : List Value} (h : RdSt w S (.mk k s a b body els) cs) :
    ∃ k1 n1 s1 A1 c1 m1 k2 n2 s2 A2 c2 m2 A3 m3 A4 m4, cs = [.int .i64 k, .string s, .int .i64 k1, .int .i64 n1, .string s1, .slice A1 c1 m1, .int .i64 k2, .int .i64 n2, .string s2, .slice A2 c2 m2, .slice A3 body.length m3, .slice A4 els.length m4] ∧
      inI k ∧ s.size ≤ 140737488355328 ∧ RdEx w S a [.int .i64 k1, .int .i64 n1, .string s1, .slice A1 c1 m1] ∧ RdEx w S b [.int .i64 k2, .int .i64 n2, .string s2, .slice A2 c2 m2] ∧
      RdSts w S body (.slice A3 body.length m3) ∧ RdSts w S els (.slice A4 els.length m4) := by
  obtain ⟨hk, hs, a0, a1, a2, a3, b0, b1, b2, b3, v, v', rfl, h1, h2, h3, h4⟩ := h.open_
  obtain ⟨k1, n1, s1, A1, c1, m1, e1⟩ := h1.cells
  obtain ⟨k2, n2, s2, A2, c2, m2, e2⟩ := h2.cells
  obtain ⟨A3, m3, rfl, _, _⟩ := h3.form
  obtain ⟨A4, m4, rfl, _, _⟩ := h4.form
  simp only [List.cons.injEq, and_true] at e1 e2
  obtain ⟨rfl, rfl, rfl, rfl⟩ := e1
  obtain ⟨rfl, rfl, rfl, rfl⟩ := e2
  exact ⟨k1, n1, s1, A1, c1, m1, k2, n2, s2, A2, c2, m2, A3, m3, A4, m4, rfl, hk, hs, h1, h2, h3, h4⟩
theorem RdSt.shut {w : World} {S : Blocks} {k : Int} {s : ByteArray} {a b : Ex} {body els : List St} {a0 a1 a2 a3 b0 b1 b2 b3 v v' : Value} (hk : inI k) (hs : s.size ≤ 140737488355328)
    (h1 : RdEx w S a [a0, a1, a2, a3]) (h2 : RdEx w S b [b0, b1, b2, b3]) (h3 : RdSts w S body v) (h4 : RdSts w S els v') :
    RdSt w S (.mk k s a b body els) [.int .i64 k, .string s, a0, a1, a2, a3, b0, b1, b2, b3, v, v'] := by
  obtain ⟨A, cap, css, rfl, hl, hm, hc, hcl, ha, hr⟩ := h3
  obtain ⟨A', cap', css', rfl, hl', hm', hc', hcl', ha', hr'⟩ := h4
  exact .mk k s a b body els a0 a1 a2 a3 b0 b1 b2 b3 A A' cap cap' css css' hk hs h1 h2 hl hm hc hcl ha hr hl' hm' hc' hcl' ha' hr'

inductive RdTm (w : World) (S : Blocks) : Tm → List Value → Prop
  | mk (k c : Int) (wr : Bool) (lb : Int) (kids : List Tm) (A : Option Addr) (cap : Nat) (css : List (List Value)) (hk : inI k) (hn : inI c) (hs : inI lb)
      (hl : kids.length ≤ cap) (hm : cap ≤ maxLen) (hc : kids.length * 56 ≤ 140737488355328) (hcl : css.length = kids.length) (ha : Arr w S 5 A css) (hr : ∀ (i : Nat) e cs, kids[i]? = some e → css[i]? = some cs → RdTm w S e cs) :
      RdTm w S (.mk k c wr lb kids) [.int .i64 k, .int .i64 c, .bool wr, .int .i64 lb, .slice A kids.length cap]
abbrev RdTms := RdL RdTm 5 56
theorem RdTm.keeps : Keeps RdTm := by
  intro w w' S S' x cs hB hk h
  induction h with
  | mk k n s lb args A cap css hkk hn hs hl hm hc hcl ha hr ih => exact .mk k n s lb args A cap css hkk hn hs hl hm hc hcl (ha.keep hB hk) ih
theorem RdTm.open_ {w : World} {S : Blocks} {k c : Int} {wr : Bool} {lb : Int} {kids : List Tm} {cs : List Value} (h : RdTm w S (.mk k c wr lb kids) cs) :
    inI k ∧ inI c ∧ inI lb ∧ ∃ v, cs = [.int .i64 k, .int .i64 c, .bool wr, .int .i64 lb, v] ∧ RdTms w S kids v := by
  cases h with
  | mk _ _ _ _ _ A cap css hkk hn hs hl hm hc hcl ha hr => exact ⟨hkk, hn, hs, _, rfl, A, cap, css, rfl, hl, hm, hc, hcl, ha, hr⟩
theorem RdTm.shut {w : World} {S : Blocks} {k c : Int} {wr : Bool} {lb : Int} {kids : List Tm} {v : Value} (hk : inI k) (hn : inI c) (hs : inI lb) (h : RdTms w S kids v) :
    RdTm w S (.mk k c wr lb kids) [.int .i64 k, .int .i64 c, .bool wr, .int .i64 lb, v] := by
  obtain ⟨A, cap, css, rfl, hl, hm, hc, hcl, ha, hr⟩ := h
  exact .mk k c wr lb kids A cap css hk hn hs hl hm hc hcl ha hr

theorem one_size {α : Type} [SizeOf α] {l : List α} {q : Nat} (hq : q < l.length) : SizeOf.sizeOf l[q] < SizeOf.sizeOf l := List.sizeOf_lt_of_mem (List.getElem_mem hq)
end Go.Proofs.Ytdelngmbpjgphaa
/- The two arguments of an expression, plainly. -/
namespace Go.Proofs.Ytdelngmbpjgphaa
set_option linter.unusedVariables false
def Ex.two : Ex → Option (Ex × Ex)
  | .mk k _ _ (a :: b :: _) => if 3 ≤ k ∧ k ≤ 9 then some (a, b) else none
  | _ => none
theorem Ex.two_size {t a b : Ex} (h : t.two = some (a, b)) : SizeOf.sizeOf a < SizeOf.sizeOf t ∧ SizeOf.sizeOf b < SizeOf.sizeOf t := by
  match t, h with
  | .mk k c w (x :: y :: r), h =>
    simp only [Ex.two] at h
    split at h
    · simp only [Option.some.injEq, Prod.mk.injEq] at h
      obtain ⟨rfl, rfl⟩ := h
      simp only [Ex.mk.sizeOf_spec, List.cons.sizeOf_spec]
      omega
    · cases h
theorem Ex.two_kind {t a b : Ex} (h : t.two = some (a, b)) : (3 ≤ t.kind ∧ t.kind ≤ 9) ∧ ∃ r, t.args = a :: b :: r := by
  match t, h with
  | .mk k c w (x :: y :: r), h =>
    simp only [Ex.two] at h
    split at h
    · simp only [Option.some.injEq, Prod.mk.injEq] at h
      obtain ⟨rfl, rfl⟩ := h
      exact ⟨by assumption, r, rfl⟩
    · cases h
theorem Ex.two_none {t : Ex} (h : t.two = none) : (t.kind < 3 ∨ 9 < t.kind) ∨ t.args.length < 2 := by
  match t, h with
  | .mk k c w [], h => exact .inr (by simp [Ex.args])
  | .mk k c w [x], h => exact .inr (by simp [Ex.args])
  | .mk k c w (x :: y :: r), h =>
    simp only [Ex.two] at h
    split at h
    · cases h
    · left; simp only [Ex.kind]; omega
theorem Ex.ind {motive : Ex → Prop} (one : ∀ t, t.two = none → motive t) (two : ∀ t a b, t.two = some (a, b) → motive a → motive b → motive t) (t : Ex) : motive t := by
  match h : t.two with
  | none => exact one t h
  | some (a, b) =>
    have hs := Ex.two_size h
    exact two t a b h (Ex.ind one two a) (Ex.ind one two b)
termination_by SizeOf.sizeOf t
end Go.Proofs.Ytdelngmbpjgphaa
/- Free names and labels of lists of statements, as plain data. -/
namespace Go.Proofs.Ytdelngmbpjgphaa
set_option linter.unusedVariables false
abbrev Str := ByteArray
instance decStr (s : Str) (l : List Str) : Decidable (s ∈ l) := decidable_of_iff (∃ x, x ∈ l ∧ x = s) (by simp)
/-- those of both, each once -/
def merge (a b : List Str) : List Str := b.foldl (fun out s => if s ∈ out then out else out ++ [s]) a
def lnot (names bound : List Str) : List Str := names.filter fun n => !decide (n ∈ bound)
theorem merge_nil (a : List Str) : merge a [] = a := rfl
theorem merge_snoc (a b : List Str) (x : Str) : merge a (b ++ [x]) = if x ∈ merge a b then merge a b else merge a b ++ [x] := by
  unfold merge; rw [List.foldl_append]; rfl
theorem merge_cons (a b : List Str) (x : Str) : merge a (x :: b) = merge (if x ∈ a then a else a ++ [x]) b := rfl
theorem mem_merge (b : List Str) : ∀ (a : List Str) (x : Str), x ∈ merge a b ↔ x ∈ a ∨ x ∈ b := by
  induction b with
  | nil => intro a x; simp [merge_nil]
  | cons y b ih =>
    intro a x
    rw [merge_cons, ih]
    by_cases h : y ∈ a
    · rw [if_pos h]
      constructor
      · rintro (h1 | h1)
        · exact .inl h1
        · exact .inr (List.mem_cons_of_mem _ h1)
      · rintro (h1 | h1)
        · exact .inl h1
        · rcases List.mem_cons.1 h1 with rfl | h2
          · exact .inl h
          · exact .inr h2
    · rw [if_neg h]
      simp [or_assoc]
theorem snocS {α : Type} {C : List α → Prop} (h0 : C []) (h1 : ∀ l x, C l → C (l ++ [x])) (l : List α) : C l := by
  have key : ∀ n, n ≤ l.length → C (l.take n) := by
    intro n
    induction n with
    | zero => intro _; rw [List.take_zero]; exact h0
    | succ n ih => intro h; rw [List.take_succ_eq_append_getElem (by omega)]; exact h1 _ _ (ih (by omega))
  have := key l.length (Nat.le_refl _)
  rwa [List.take_length] at this
theorem merge_assoc (a b c : List Str) : merge a (merge b c) = merge (merge a b) c := by
  induction c using snocS with
  | h0 => rfl
  | h1 c x ih =>
    rw [merge_snoc b, merge_snoc (merge a b), ← ih]
    by_cases h : x ∈ merge b c
    · rw [if_pos h, if_pos ((mem_merge _ _ _).2 (.inr h))]
    · rw [if_neg h, merge_snoc]
theorem merge_app (a b c : List Str) : merge a (b ++ c) = merge (merge a b) c := by
  unfold merge; rw [List.foldl_append]
theorem merge_nodup (b : List Str) : ∀ a : List Str, a.Nodup → (merge a b).Nodup := by
  induction b with
  | nil => intro a h; exact h
  | cons x b ih =>
    intro a h
    rw [merge_cons]
    by_cases hx : x ∈ a
    · rw [if_pos hx]; exact ih a h
    · rw [if_neg hx]
      apply ih
      rw [List.nodup_append]
      exact ⟨h, by simp, fun y hy z hz => by simp at hz; subst hz; exact fun e => hx (e ▸ hy)⟩
theorem nil_merge (b : List Str) (h : b.Nodup) : merge [] b = b := by
  induction b using snocS with
  | h0 => rfl
  | h1 b x ih =>
    rw [List.nodup_append] at h
    rw [merge_snoc, ih h.1, if_neg (fun hx => h.2.2 x hx x (by simp) rfl)]
/-- an expression's names, as they come first -/
def Ex.names (t : Ex) : List Str :=
  match h : t.two with
  | some (a, b) => merge a.names b.names
  | none => if t.kind = 2 then [t.name] else []
termination_by SizeOf.sizeOf t
decreasing_by all_goals (have hs := Ex.two_size h; omega)
theorem Ex.names_two {t a b : Ex} (h : t.two = some (a, b)) : t.names = merge a.names b.names := by
  rw [Ex.names]; split
  · rename_i a' b' h'; rw [h] at h'; simp at h'; obtain ⟨rfl, rfl⟩ := h'; rfl
  · rename_i h'; rw [h] at h'; cases h'
theorem Ex.names_none {t : Ex} (h : t.two = none) : t.names = if t.kind = 2 then [t.name] else [] := by
  rw [Ex.names]; split
  · rename_i a' b' h'; rw [h] at h'; cases h'
  · rfl
theorem Ex.names_nodup (t : Ex) : t.names.Nodup := by
  refine Ex.ind (motive := fun t => t.names.Nodup) ?_ ?_ t
  · intro t h; rw [Ex.names_none h]; split <;> simp
  · intro t a b h ha hb; rw [Ex.names_two h]; exact merge_nodup _ _ ha
def St.kind : St → Int | .mk k _ _ _ _ _ => k
def St.name : St → Str | .mk _ s _ _ _ _ => s
def bindsOf (s : St) : List Str := if s.kind = 1 ∨ s.kind = 2 then [s.name] else []
def bindsL (l : List St) : List Str := l.flatMap bindsOf
mutual
def oneF : St → List Str → List Str
  | .mk k s a b body els, B =>
    if k = 1 ∨ k = 2 then lnot a.names B
    else if k = 3 then merge (lnot a.names B) (lnot b.names B)
    else if k = 4 ∨ k = 5 then lfree body B
    else if k = 6 then merge (lnot a.names B) (merge (lfree body B) (lfree els B))
    else if k = 7 then merge (merge (lnot a.names B) (lnot b.names B)) (lfree body (B ++ [s]))
    else []
def lfree : List St → List Str → List Str
  | [], _ => []
  | s :: rest, B => merge (oneF s B) (lfree rest (B ++ bindsOf s))
end
mutual
def labelsS : St → Nat
  | .mk k s a b body els => (if k = 2 ∨ k = 3 then 1 else 0) + (if k = 4 ∨ k = 5 ∨ k = 6 ∨ k = 7 then labelsL body else 0) + (if k = 6 then labelsL els else 0)
def labelsL : List St → Nat
  | [] => 0
  | s :: r => labelsS s + labelsL r
end
theorem lfree_snoc (l : List St) : ∀ (F B : List Str) (s : St), merge F (lfree (l ++ [s]) B) = merge (merge F (lfree l B)) (oneF s (B ++ bindsL l)) := by
  induction l with
  | nil =>
    intro F B s
    show merge F (lfree [s] B) = _
    unfold lfree
    rw [merge_assoc]
    unfold lfree
    simp [merge_nil, bindsL]
  | cons t l ih =>
    intro F B s
    show merge F (lfree (t :: (l ++ [s])) B) = _
    rw [show lfree (t :: (l ++ [s])) B = merge (oneF t B) (lfree (l ++ [s]) (B ++ bindsOf t)) by rw [lfree]]
    rw [show lfree (t :: l) B = merge (oneF t B) (lfree l (B ++ bindsOf t)) by rw [lfree]]
    rw [merge_assoc, ih, merge_assoc]
    simp [bindsL, List.append_assoc]
theorem lnot_nodup {a B : List Str} (h : a.Nodup) : (lnot a B).Nodup := h.filter _
theorem oneF_nodup (s : St) (hl : ∀ (l : List St) (B : List Str), SizeOf.sizeOf l < SizeOf.sizeOf s → (lfree l B).Nodup) (B : List Str) : (oneF s B).Nodup := by
  obtain ⟨k, n, a, b, body, els⟩ := s
  have h1 : SizeOf.sizeOf body < SizeOf.sizeOf (St.mk k n a b body els) := by simp; omega
  have h2 : SizeOf.sizeOf els < SizeOf.sizeOf (St.mk k n a b body els) := by simp; omega
  have na := lnot_nodup (B := B) (Ex.names_nodup a)
  rw [oneF]
  repeat' split
  · exact na
  · exact merge_nodup _ _ na
  · exact hl _ _ h1
  · exact merge_nodup _ _ na
  · exact merge_nodup _ _ (merge_nodup _ _ na)
  · exact List.nodup_nil
theorem lfree_nodup (m : Nat) : ∀ (l : List St), SizeOf.sizeOf l ≤ m → ∀ B, (lfree l B).Nodup := by
  induction m with
  | zero => intro l h; cases l with
    | nil => intro B; rw [lfree]; exact List.nodup_nil
    | cons s r => simp at h
  | succ m ih =>
    intro l h B
    cases l with
    | nil => rw [lfree]; exact List.nodup_nil
    | cons s r =>
      rw [lfree]
      refine merge_nodup _ _ (oneF_nodup s (fun l B hl => ih l ?_ B) B)
      simp at h; omega
theorem free_eq_lfree (l : List St) : merge [] (lfree l []) = lfree l [] := nil_merge _ (lfree_nodup _ l (Nat.le_refl _) _)
end Go.Proofs.Ytdelngmbpjgphaa
