/- Texts merged: ScSpec, StrB, AppStep, OwnTw. -/
import Derived.Test.YtijahadmaggncaaDoorGTwo
import Derived.Laws.Strings
import Derived.Test.YtijahadmaggncaaDoorFlat
import Derived.Deep.AppendLies
/- Free names and labels of lists of statements, as plain data. -/
namespace Go.Proofs.YtijahadmaggncaaDoor
set_option linter.unusedVariables false
abbrev Str := ByteArray
instance decStr (s : Str) (l : List Str) : Decidable (s ∈ l) := decidable_of_iff (∃ x, x ∈ l ∧ x = s) (by simp)
/-- those of both, each once -/
def merge (a b : List Str) : List Str := b.foldl (fun out s => if s ∈ out then out else out ++ [s]) a
def lnot (names bound : List Str) : List Str := names.filter fun n => !decide (n ∈ bound)
theorem merge_nil (a : List Str) : merge a [] = a := rfl
theorem merge_snoc (a b : List Str) (x : Str) : merge a (b ++ [x]) = if x ∈ merge a b then merge a b else merge a b ++ [x] := by
  unfold merge; rw [List.foldl_append]; rfl
theorem merge_cons (a b : List Str) (x : Str) : merge a (x :: b) = merge (if x ∈ a then a else a ++ [x]) b := rfl
theorem mem_merge (b : List Str) : ∀ (a : List Str) (x : Str), x ∈ merge a b ↔ x ∈ a ∨ x ∈ b := by
  induction b with
  | nil => intro a x; simp [merge_nil]
  | cons y b ih =>
    intro a x
    rw [merge_cons, ih]
    by_cases h : y ∈ a
    · rw [if_pos h]
      constructor
      · rintro (h1 | h1)
        · exact .inl h1
        · exact .inr (List.mem_cons_of_mem _ h1)
      · rintro (h1 | h1)
        · exact .inl h1
        · rcases List.mem_cons.1 h1 with rfl | h2
          · exact .inl h
          · exact .inr h2
    · rw [if_neg h]
      simp [or_assoc]
theorem snocS {α : Type} {C : List α → Prop} (h0 : C []) (h1 : ∀ l x, C l → C (l ++ [x])) (l : List α) : C l := by
  have key : ∀ n, n ≤ l.length → C (l.take n) := by
    intro n
    induction n with
    | zero => intro _; rw [List.take_zero]; exact h0
    | succ n ih => intro h; rw [List.take_succ_eq_append_getElem (by omega)]; exact h1 _ _ (ih (by omega))
  have := key l.length (Nat.le_refl _)
  rwa [List.take_length] at this
theorem merge_assoc (a b c : List Str) : merge a (merge b c) = merge (merge a b) c := by
  induction c using snocS with
  | h0 => rfl
  | h1 c x ih =>
    rw [merge_snoc b, merge_snoc (merge a b), ← ih]
    by_cases h : x ∈ merge b c
    · rw [if_pos h, if_pos ((mem_merge _ _ _).2 (.inr h))]
    · rw [if_neg h, merge_snoc]
theorem merge_app (a b c : List Str) : merge a (b ++ c) = merge (merge a b) c := by
  unfold merge; rw [List.foldl_append]
theorem merge_nodup (b : List Str) : ∀ a : List Str, a.Nodup → (merge a b).Nodup := by
  induction b with
  | nil => intro a h; exact h
  | cons x b ih =>
    intro a h
    rw [merge_cons]
    by_cases hx : x ∈ a
    · rw [if_pos hx]; exact ih a h
    · rw [if_neg hx]
      apply ih
      rw [List.nodup_append]
      exact ⟨h, by simp, fun y hy z hz => by simp at hz; subst hz; exact fun e => hx (e ▸ hy)⟩
theorem nil_merge (b : List Str) (h : b.Nodup) : merge [] b = b := by
  induction b using snocS with
  | h0 => rfl
  | h1 b x ih =>
    rw [List.nodup_append] at h
    rw [merge_snoc, ih h.1, if_neg (fun hx => h.2.2 x hx x (by simp) rfl)]
/-- an expression's names, as they come first -/
def Ex.names (t : Ex) : List Str :=
  match h : t.two with
  | some (a, b) => merge a.names b.names
  | none => if t.kind = 2 then [t.name] else []
termination_by SizeOf.sizeOf t
decreasing_by all_goals (have hs := Ex.two_size h; omega)
theorem Ex.names_two {t a b : Ex} (h : t.two = some (a, b)) : t.names = merge a.names b.names := by
  rw [Ex.names]; split
  · rename_i a' b' h'; rw [h] at h'; simp at h'; obtain ⟨rfl, rfl⟩ := h'; rfl
  · rename_i h'; rw [h] at h'; cases h'
theorem Ex.names_none {t : Ex} (h : t.two = none) : t.names = if t.kind = 2 then [t.name] else [] := by
  rw [Ex.names]; split
  · rename_i a' b' h'; rw [h] at h'; cases h'
  · rfl
theorem Ex.names_nodup (t : Ex) : t.names.Nodup := by
  refine Ex.ind (motive := fun t => t.names.Nodup) ?_ ?_ t
  · intro t h; rw [Ex.names_none h]; split <;> simp
  · intro t a b h ha hb; rw [Ex.names_two h]; exact merge_nodup _ _ ha
def St.kind : St → Int | .mk k _ _ _ _ _ => k
def St.name : St → Str | .mk _ s _ _ _ _ => s
def bindsOf (s : St) : List Str := if s.kind = 1 ∨ s.kind = 2 then [s.name] else []
def bindsL (l : List St) : List Str := l.flatMap bindsOf
mutual
def oneF : St → List Str → List Str
  | .mk k s a b body els, B =>
    if k = 1 ∨ k = 2 then lnot a.names B
    else if k = 3 then merge (lnot a.names B) (lnot b.names B)
    else if k = 4 ∨ k = 5 then lfree body B
    else if k = 6 then merge (lnot a.names B) (merge (lfree body B) (lfree els B))
    else if k = 7 then merge (merge (lnot a.names B) (lnot b.names B)) (lfree body (B ++ [s]))
    else []
def lfree : List St → List Str → List Str
  | [], _ => []
  | s :: rest, B => merge (oneF s B) (lfree rest (B ++ bindsOf s))
end
mutual
def labelsS : St → Nat
  | .mk k s a b body els => (if k = 2 ∨ k = 3 then 1 else 0) + (if k = 4 ∨ k = 5 ∨ k = 6 ∨ k = 7 then labelsL body else 0) + (if k = 6 then labelsL els else 0)
def labelsL : List St → Nat
  | [] => 0
  | s :: r => labelsS s + labelsL r
end
theorem lfree_snoc (l : List St) : ∀ (F B : List Str) (s : St), merge F (lfree (l ++ [s]) B) = merge (merge F (lfree l B)) (oneF s (B ++ bindsL l)) := by
  induction l with
  | nil =>
    intro F B s
    show merge F (lfree [s] B) = _
    unfold lfree
    rw [merge_assoc]
    unfold lfree
    simp [merge_nil, bindsL]
  | cons t l ih =>
    intro F B s
    show merge F (lfree (t :: (l ++ [s])) B) = _
    rw [show lfree (t :: (l ++ [s])) B = merge (oneF t B) (lfree (l ++ [s]) (B ++ bindsOf t)) by rw [lfree]]
    rw [show lfree (t :: l) B = merge (oneF t B) (lfree l (B ++ bindsOf t)) by rw [lfree]]
    rw [merge_assoc, ih, merge_assoc]
    simp [bindsL, List.append_assoc]
theorem lnot_nodup {a B : List Str} (h : a.Nodup) : (lnot a B).Nodup := h.filter _
theorem oneF_nodup (s : St) (hl : ∀ (l : List St) (B : List Str), SizeOf.sizeOf l < SizeOf.sizeOf s → (lfree l B).Nodup) (B : List Str) : (oneF s B).Nodup := by
  obtain ⟨k, n, a, b, body, els⟩ := s
  have h1 : SizeOf.sizeOf body < SizeOf.sizeOf (St.mk k n a b body els) := by simp; omega
  have h2 : SizeOf.sizeOf els < SizeOf.sizeOf (St.mk k n a b body els) := by simp; omega
  have na := lnot_nodup (B := B) (Ex.names_nodup a)
  rw [oneF]
  repeat' split
  · exact na
  · exact merge_nodup _ _ na
  · exact hl _ _ h1
  · exact merge_nodup _ _ na
  · exact merge_nodup _ _ (merge_nodup _ _ na)
  · exact List.nodup_nil
theorem lfree_nodup (m : Nat) : ∀ (l : List St), SizeOf.sizeOf l ≤ m → ∀ B, (lfree l B).Nodup := by
  induction m with
  | zero => intro l h; cases l with
    | nil => intro B; rw [lfree]; exact List.nodup_nil
    | cons s r => simp at h
  | succ m ih =>
    intro l h B
    cases l with
    | nil => rw [lfree]; exact List.nodup_nil
    | cons s r =>
      rw [lfree]
      refine merge_nodup _ _ (oneF_nodup s (fun l B hl => ih l ?_ B) B)
      simp at h; omega
theorem free_eq_lfree (l : List St) : merge [] (lfree l []) = lfree l [] := nil_merge _ (lfree_nodup _ l (Nat.le_refl _) _)
end Go.Proofs.YtijahadmaggncaaDoor
/- Slices of strings: slices.Index, Contains, Equal; the reference's Merge. -/
namespace Go.Proofs.YtijahadmaggncaaDoor
open Go.RowKit
set_option linter.unusedVariables false
def encS (s : Str) : List Value := [.string s]
def okS (s : Str) : Prop := s.size ≤ 140737488355328
abbrev RdSs := RdL (Flat encS okS) 1 16
abbrev OwnSs := OwnL (Flat encS okS) 1
theorem RdSs.at1 {w : World} {S : Blocks} {l : List Str} {A : Option Addr} {n cap : Nat} (h : RdSs w S l (.slice A n cap)) {q : Nat} (hq : q < l.length) :
    ∃ b off, A = some ⟨b, off, none⟩ ∧ S b ∧ okS l[q] ∧ w.cell? ⟨b, off + q, none⟩ = some (.string l[q]) :=
  RdL.one (f := fun (x : Str) => Value.string x) (ok := okS) h hq
theorem oneS {w : World} {S : Blocks} : ∀ (e : Str) (cs : List Value), Flat encS okS w S e cs → ∀ u ∈ cs, u.oneCell' = true := by
  rintro e _ ⟨rfl, _⟩ u hu
  simp only [encS, List.mem_singleton] at hu
  subst hu; rfl
theorem infoStr : (Tryd.prog.info? 9).map (fun i => (i.zero, i.size, i.bytes)) = some (some (.string ⟨#[]⟩), 1, 16) := by kernel_rfl
theorem str_ne {a b : Str} (h : ¬ a = b) : (a.toList == b.toList) = false := by
  rw [beq_eq_false_iff_ne]
  intro e
  rw [ByteArray.toList_eq, ByteArray.toList_eq] at e
  exact h (ByteArray.ext (Array.toList_inj.mp e))
theorem str_eq {a b : Str} (h : a = b) : (a.toList == b.toList) = true := by rw [h]; simp
end Go.Proofs.YtijahadmaggncaaDoor
/- 'append' at a step of a region that draws its order, said of rows that read as lists. -/
namespace Go.Proofs.YtijahadmaggncaaDoor
open Go.RowKit
set_option linter.unusedVariables false
section
variable {P : Program} {α : Type} {rd : World → Blocks → α → List Value → Prop} {size bytes : Nat} {E : TypeId} {w : World} {base : Nat} {S Tx U : Blocks} {l m : List α} {v : Value} {A : Option Addr} {n c : Nat}
/-- 'append(s, y...)' at a step of a region that draws -/
theorem step_append_list {ops : Array Oper} {o : Oper} {a : Act} {K : Act → World → Prop} {Q : Exit → Act → World → Prop} {Z : Prop} (hgd : o.guard = none) (s y : Operand) (t : TypeId) (ho : o.op = .call { callee := .builtin .append, args := #[s, y], argTypes := #[t, t] })
    (hs : a.eval s = v) (hy : a.eval y = .slice A n c)
    (i : TypeInfo) (z : Value) (ht : P.underlying t = some (.slice E)) (hi : P.info? E = some i) (hz : i.zero = some z) (hsize : i.size = size) (hby : i.bytes = bytes) (hzs : z.cells.size = size) (hsz : 0 < size)
    (hr : Keeps rd) (hx : RdL (fun w' _ e cs => rd w' Tx e cs) size bytes w U m (.slice A n c)) (hown : OwnL rd size E w base S l v) (t1 : Sub Tx S) (t2 : Sub Tx (Upto w.heap.size)) (t3 : ∀ k, v.ownBlock = some k → ¬ Tx k)
    (h1 : ∀ e cs, rd w Tx e cs → ∀ u ∈ cs, u.oneCell' = true) (h63 : l.length + m.length ≤ maxLen) (hbytes : (l.length + m.length) * bytes ≤ 140737488355328) (hbase : base ≤ w.heap.size)
    (h : ∀ v' w', OwnL rd size E w' base S (l ++ m) v' → w.grownBy w' v.ownBlock → (v'.ownBlock = v.ownBlock ∨ v'.ownBlock = some w.heap.size) → K (a.put o.dst v') w') :
    if Region.wanted o (yielded ops a.tmps) = true then Oper.wp P o a w K Q else Z := by
  have hw : Region.wanted o (yielded ops a.tmps) = true := by simp [Region.wanted, hgd]
  rw [if_pos hw]
  exact wp_append_list s y t ho i z ht hi hz hsize hby hzs hsz hr hown hx hs hy t1 t2 t3 h1 h63 hbytes hbase h
end
theorem rdI_one {w : World} {S : Blocks} {g : Nat} {x : Int} (h : w.cell? ⟨g, 0, none⟩ = some (.int .i64 x)) (hx : inI x) (hg : S g) : RdI w S [x] (.slice (some ⟨g, 0, none⟩) 1 1) :=
  ⟨_, 1, [[.int .i64 x]], rfl, Nat.le_refl _, by simp [maxLen], by simp, rfl, ⟨by simp, fun _ => ⟨g, 0, rfl, hg, fun i cs hi j v hv => by
    match i, hi with
    | 0, hi =>
      simp at hi; subst hi
      match j, hv with
      | 0, hv => simp at hv; subst hv; simpa using h⟩⟩, fun i e cs hi hc => by
    match i, hi, hc with
    | 0, hi, hc => simp at hi hc; subst hi hc; exact ⟨rfl, hx⟩⟩
theorem frozen_of_heap {w w' : World} {b o : Nat} {sp : Option Nat} (h : w'.heap[b]? = w.heap[b]?) : w'.frozen? ⟨b, o, sp⟩ = w.frozen? ⟨b, o, sp⟩ := by
  simp only [World.frozen?, h]
theorem rd_one {α : Type} {enc : α → List Value} {ok : α → Prop} {size bytes : Nat} {w : World} {S : Blocks} {g : Nat} {x : α} (hlen : (enc x).length = size) (h : ∀ (j : Nat) v, (enc x)[j]? = some v → w.cell? ⟨g, j, none⟩ = some v) (hx : ok x) (hg : S g) (hb : bytes ≤ 140737488355328) : RdL (Flat enc ok) size bytes w S [x] (.slice (some ⟨g, 0, none⟩) 1 1) :=
  ⟨_, 1, [enc x], rfl, Nat.le_refl _, by simp [maxLen], by simpa using hb, rfl, ⟨by simpa using hlen, fun _ => ⟨g, 0, rfl, hg, fun i cs hi j v hv => by
    match i, hi with
    | 0, hi => simp at hi; subst hi; simpa using h j v hv⟩⟩, fun i e cs hi hc => by
    match i, hi, hc with
    | 0, hi, hc => simp at hi hc; subst hi hc; exact ⟨rfl, hx⟩⟩
theorem cells_newAt (w : World) (vs : List Value) (E : TypeId) {g : Nat} (h : w.heap.size = g) : ∀ (j : Nat) v, vs[j]? = some v → (w.alloc (.cells vs.toArray E)).drew.cell? ⟨g, j, none⟩ = some v := by
  subst h
  intro j v hv
  have h := heap_alloc_new w (.cells vs.toArray E)
  show (w.alloc (.cells vs.toArray E)).cell? ⟨w.heap.size, j, none⟩ = some v
  unfold World.cell?
  simp only [h]
  simpa using hv
theorem grown_frozen {w w' : World} {row : Option Nat} (h : w.grownBy w' row) {b o : Nat} (hf : w.frozen? ⟨b, o, none⟩ = false) (hlt : b < w.heap.size) (hn : row ≠ some b) : w'.frozen? ⟨b, o, none⟩ = false := by
  rw [frozen_of_heap (h.block b hlt (fun e => hn e.symm))]; exact hf
theorem Sub.plus_mono2 {S : Blocks} (n m : Nat) : Sub (Plus Nowhere n m) (Plus S n m) := fun b h => h.elim (fun h => h.elim) .inr
theorem cell_new1 (w : World) (x : Value) (E : TypeId) : (w.alloc (.cells #[x] E)).cell? ⟨w.heap.size, 0, none⟩ = some x := by simp
theorem cell_newAt (w : World) (x : Value) (E : TypeId) {g : Nat} (h : w.heap.size = g) : (w.alloc (.cells #[x] E)).drew.cell? ⟨g, 0, none⟩ = some x := by subst h; exact cell_new1 w x E
theorem cell_oldAt (w : World) (x : Value) (E : TypeId) (o : Obj) : ((w.alloc (.cells #[x] E)).alloc o).drew.cell? ⟨w.heap.size, 0, none⟩ = some x :=
  (World.cell?_alloc_lt (w.alloc (.cells #[x] E)) o ⟨w.heap.size, 0, none⟩ (by simp)).trans (cell_new1 w x E)
theorem ownBlock_ne {g k n c : Nat} (h : g ≠ k) : (Value.slice (some ⟨g, 0, none⟩) n c).ownBlock ≠ some k := fun e => h (Option.some.inj e)
/-- the world after an append keeps the cells of other blocks -/
theorem grown_cell {w w' : World} {row : Option Nat} (h : w.grownBy w' row) {b o : Nat} {v : Value} (hc : w.cell? ⟨b, o, none⟩ = some v) (hn : row ≠ some b) : w'.cell? ⟨b, o, none⟩ = some v := by
  have hlt : b < w.heap.size := World.block_lt_of_cell? w _ hc
  rw [World.cell?_of_block (a := ⟨b, o, none⟩) (h.block b hlt (fun e => hn e.symm))]; exact hc
section
variable {α : Type} {rd : World → Blocks → α → List Value → Prop} {size bytes : Nat} {w : World} {S : Blocks} {l : List α}
theorem OwnL.emptyAt {E : TypeId} {base g : Nat} (hb : base ≤ w.heap.size) (hg : w.heap.size = g) : OwnL rd size E (w.alloc (.cells #[] E)) base S [] (.slice (some ⟨g, 0, none⟩) 0 0) := by
  subst hg; exact OwnL.empty w hb
/-- behind the first k of it -/
theorem RdL.drop {A : Option Addr} {n cap k : Nat} (h : RdL rd size bytes w S l (.slice A n cap)) (hk : k ≤ l.length) :
    RdL rd size bytes w S (l.drop k) (.slice (A.map fun a => a.add (k * size)) (n - k) (cap - k)) := by
  obtain ⟨A', cap', css, h1, h2, h3, h4, h5, h6, h7⟩ := h
  injection h1 with e1 e2 e3
  subst e1 e2 e3
  refine ⟨_, _, css.drop k, by rw [List.length_drop], by rw [List.length_drop]; omega, by omega, ?_, by simp [h5], ⟨fun cs hcs => h6.1 cs (List.mem_of_mem_drop hcs), fun hne => ?_⟩, fun i e cs hi hc => ?_⟩
  · rw [List.length_drop]; exact Nat.le_trans (Nat.mul_le_mul_right _ (by omega)) h4
  · obtain ⟨b, off, hA, hb, hc⟩ := h6.2 (by intro h; subst h; simp at hne)
    subst hA
    refine ⟨b, off + k * size, by simp only [Option.map_some, Addr.add]; split <;> simp_all, hb, fun i cs hi j v hv => ?_⟩
    rw [List.getElem?_drop] at hi
    have := hc (k + i) cs hi j v hv
    rw [Nat.add_mul] at this
    rw [show off + k * size + (i * size + j) = off + (k * size + i * size + j) by omega]
    exact this
  · rw [List.getElem?_drop] at hi hc
    exact h7 _ e cs hi hc
/-- the same at an end of the capacity: where it lies says nothing -/
theorem RdL.any {A A' : Option Addr} {cap cap' : Nat} (h : RdL rd size bytes w S [] (.slice A 0 cap)) (hc : cap' ≤ maxLen) : RdL rd size bytes w S [] (.slice A' 0 cap') := RdL.nil hc
end
end Go.Proofs.YtijahadmaggncaaDoor
/- Own rows of words. -/
namespace Go.Proofs.YtijahadmaggncaaDoor
open Go.RowKit
set_option linter.unusedVariables false
abbrev OwnT (w : World) (base : Nat) (l : List Str) (v : Value) : Prop := OwnSs 9 w base Nowhere l v
theorem OwnT.lit1 {w : World} {base : Nat} (s : Str) (hs : okS s) (hb : base ≤ w.heap.size) : OwnT (w.alloc (.cells #[.string s] 9)) base [s] (.slice (some ⟨w.heap.size, 0, none⟩) 1 1) :=
  ⟨Nowhere, [encS s], Sub.refl _, Sub.nowhere _, not_nowhere, rfl, by simp [encS], ⟨by simp [encS], .inr ⟨w.heap.size, 1, (encS s).toArray, rfl, hb, by
    show (w.alloc (.cells (encS s).toArray 9)).heap[w.heap.size]? = _
    show (w.heap.push _)[w.heap.size]? = _
    simp, Nat.le_refl _, by simp [maxLen], by simp [encS], by simp [encS]⟩⟩, fun i e cs hi hc => by
    match i, hi, hc with
    | 0, hi, hc => simp at hi hc; subst hi hc; exact ⟨rfl, hs⟩⟩
theorem OwnT.rebase {w : World} {base base' : Nat} {l : List Str} {v : Value} (h : OwnT w base l v) (hb : base' ≤ base) : OwnT w base' l v := by
  obtain ⟨T, css, t1, t2, t3, h1, h2, h3, h4⟩ := h
  refine ⟨T, css, t1, t2, t3, h1, h2, ⟨h3.1, ?_⟩, h4⟩
  rcases h3.2 with h | ⟨g, cap, cur, e, hbg, r⟩
  · exact .inl h
  · exact .inr ⟨g, cap, cur, e, Nat.le_trans hb hbg, r⟩
/-- it reads, wherever -/
theorem OwnT.rd {w : World} {base : Nat} {l : List Str} {v : Value} (h : OwnT w base l v) (hb : l.length * 16 ≤ 140737488355328) : RdSs w (fun b => base ≤ b ∧ b < w.heap.size) l v :=
  h.toRd Flat.keeps hb (Sub.nowhere _) (fun b h1 h2 => ⟨h1, h2⟩)
theorem rd_lit {w : World} (s : Str) (hs : okS s) : RdSs (w.alloc (.cells #[.string s] 9)) (fun _ => True) [s] (.slice (some ⟨w.heap.size, 0, none⟩) 1 1) :=
  rd_one (enc := encS) (x := s) rfl (cells_newAt w [.string s] 9 rfl) hs trivial (by decide)
theorem own_set1 {w : World} {base g n cap : Nat} {l : List Str} (h : OwnT w base l (.slice (some ⟨g, 0, none⟩) n cap)) {q : Nat} (hq : q < l.length) (x : Str) (hx : okS x) : OwnT (w.setCell ⟨g, q, none⟩ (.string x)) base (l.set q x) (.slice (some ⟨g, 0, none⟩) n cap) :=
  OwnL.set1 (f := fun (x : Str) => Value.string x) (ok := okS) h hq x hx
end Go.Proofs.YtijahadmaggncaaDoor
