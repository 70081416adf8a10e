/- Texts merged: ExSpec, AccL, SrSpec. -/
import Derived.Test.YtdelngmbpjgphaaEx1
import Derived.Test.YtdelngmbpjgphaaGScSpec
import Derived.Test.YtdelngmbpjgphaaFlat
import Derived.Laws.Strings
/- What an expression is worth, plainly. -/
namespace Go.Proofs.Ytdelngmbpjgphaa
open Go.RowKit
set_option linter.unusedVariables false
structure Bd where
  name : ByteArray
  val : Int
deriving Inhabited
def encBd (x : Bd) : List Value := [.string x.name, .int .i64 x.val]
def okBd (x : Bd) : Prop := x.name.size ≤ 140737488355328 ∧ inI x.val
abbrev RdBds := RdL (Flat encBd okBd) 2 24
/-- what the last bind of that name says -/
def look (l : List Bd) (s : ByteArray) : Int := l.foldl (fun v b => if b.name = s then b.val else v) 0
theorem look_take (l : List Bd) (s : ByteArray) {q : Nat} (hq : q < l.length) : look (l.take (q + 1)) s = if l[q].name = s then l[q].val else look (l.take q) s := by
  unfold look
  rw [List.take_add_one, List.getElem?_eq_getElem hq, Option.toList_some, List.foldl_append]
  rfl
theorem look_in (l : List Bd) (s : ByteArray) (h : ∀ x ∈ l, okBd x) : inI (look l s) := by
  unfold look
  have key : ∀ (m : List Bd) (v : Int), inI v → (∀ x ∈ m, okBd x) → inI (m.foldl (fun v b => if b.name = s then b.val else v) v) := by
    intro m
    induction m with
    | nil => intro v hv _; exact hv
    | cons b r ih =>
      intro v hv hm
      simp only [List.foldl_cons]
      apply ih
      · split
        · exact (hm b (by simp)).2
        · exact hv
      · intro x hx; exact hm x (by simp [hx])
  exact key l 0 (by decide) h
def Ex.worth (env : List Bd) (t : Ex) : Int :=
  match h : t.two with
  | some (a, b) => doE t.kind (a.worth env) (b.worth env)
  | none => if t.kind = 1 then t.num else if t.kind = 2 then look env t.name else 0
termination_by SizeOf.sizeOf t
decreasing_by all_goals (have hs := Ex.two_size h; omega)
theorem Ex.worth_two (env : List Bd) {t a b : Ex} (h : t.two = some (a, b)) : t.worth env = doE t.kind (a.worth env) (b.worth env) := by
  rw [Ex.worth]; split <;> simp_all
theorem Ex.worth_none (env : List Bd) {t : Ex} (h : t.two = none) : t.worth env = if t.kind = 1 then t.num else if t.kind = 2 then look env t.name else 0 := by
  rw [Ex.worth]; split <;> simp_all
theorem wrap64_inI (z : Int) : inI (wrap64 z) := by unfold inI wrap64; omega
theorem doE_in (k a b : Int) (ha : inI a) (hb : inI b) : inI (doE k a b) := by
  unfold doE
  split; · exact wrap64_inI _
  split; · exact wrap64_inI _
  split; · exact wrap64_inI _
  split; · split <;> decide
  split; · split <;> decide
  split; · decide
  rename_i h0
  split; · exact wrap64_inI _
  split
  · have h1 := ha.1
    have h2 := ha.2
    have h3 := hb.1
    have h4 := hb.2
    have e := Int.tmod_lt_of_pos
    have k1 : (a.tmod b).natAbs < b.natAbs := by
      rw [Int.natAbs_tmod]; exact Nat.mod_lt _ (by omega)
    unfold inI; omega
  · decide
theorem name_ne {a b : ByteArray} (h : ¬ a = b) : (a.toList == b.toList) = false := by
  rw [beq_eq_false_iff_ne]
  intro e
  rw [ByteArray.toList_eq, ByteArray.toList_eq] at e
  exact h (ByteArray.ext (Array.toList_inj.mp e))
end Go.Proofs.Ytdelngmbpjgphaa
/- Accesses, and rows of them. -/
namespace Go.Proofs.Ytdelngmbpjgphaa
open Go.RowKit
set_option linter.unusedVariables false
structure Acc where
  cell : Int
  write : Bool
  label : Int
deriving Inhabited, DecidableEq
def encAcc (a : Acc) : List Value := [.int .i64 a.cell, .bool a.write, .int .i64 a.label]
def okAcc (a : Acc) : Prop := inI a.cell ∧ inI a.label
abbrev RdAccs := RdL (Flat encAcc okAcc) 3 24
abbrev OwnAccs := OwnL (Flat encAcc okAcc) 3
abbrev accV (c : Int) (wr : Bool) (lb : Int) : Value := .agg #[.int .i64 c, .bool wr, .int .i64 lb]
theorem infoAcc : (Try.prog.info? 23).map (fun i => (i.zero, i.size, i.bytes)) = some (some (.agg #[.int .i64 0, .bool false, .int .i64 0]), 3, 24) := by kernel_rfl
theorem oneAcc {w : World} {S : Blocks} : ∀ (e : Acc) (cs : List Value), Flat encAcc okAcc w S e cs → ∀ u ∈ cs, u.oneCell' = true := by
  rintro e _ ⟨rfl, _⟩ u hu
  simp only [encAcc, List.mem_cons, List.not_mem_nil, or_false] at hu
  rcases hu with rfl | rfl | rfl <;> rfl
end Go.Proofs.Ytdelngmbpjgphaa
/- A run of a program, plainly: the heap, the steps, the accesses; none: there is no fuel. -/
namespace Go.Proofs.Ytdelngmbpjgphaa
set_option linter.unusedVariables false
structure MS where
  h : List Int
  st : Nat
  tr : List Acc
/-- the cell that a number names -/
def cellN (v : Int) : Nat := (v % 8).toNat
theorem cellN_lt (v : Int) : cellN v < 8 := by unfold cellN; omega
theorem cellN_int (v : Int) : (cellN v : Int) = v % 8 := by unfold cellN; omega
def MS.step (m : MS) : MS := { m with st := m.st + 1 }
def MS.see (m : MS) (v : Int) (wr : Bool) (lab : Nat) : MS := { m with tr := m.tr ++ [⟨(cellN v : Int), wr, (lab : Int)⟩] }
def MS.put (m : MS) (v x : Int) : MS := { m with h := m.h.set (cellN v) x }
def MS.get (m : MS) (v : Int) : Int := m.h.getD (cellN v) 0
/-- rounds of a body, i up to b -/
def forR (F : Nat) (b : Int) (body : Int → MS → Option MS) : Nat → Int → MS → Option MS
  | 0, i, m => if i < b then none else some m
  | n + 1, i, m => if i < b then (if m.st < F then (body i m.step).bind (forR F b body n (i + 1)) else none) else some m
mutual
def stR (F : Nat) : St → List Bd → Nat → MS → Option (MS × List Bd)
  | .mk k s a b body els, env, lab, m =>
    if k < 1 ∨ 7 < k then some (m, env)
    else if ¬ m.st < F then none
    else if k = 1 then some (m.step, env ++ [⟨s, a.worth env⟩])
    else if k = 2 then some (m.step.see (a.worth env) false lab, env ++ [⟨s, m.get (a.worth env)⟩])
    else if k = 3 then some ((m.step.see (a.worth env) true lab).put (a.worth env) (b.worth env), env)
    else if k = 4 ∨ k = 5 then (blR F body env lab m.step).map fun m' => (m', env)
    else if k = 6 then (if a.worth env = 0 then blR F els env (lab + labelsL body) m.step else blR F body env lab m.step).map fun m' => (m', env)
    else (forR F (b.worth env) (fun i m => blR F body (env ++ [⟨s, i⟩]) lab m) (F + 1) (a.worth env) m.step).map fun m' => (m', env)
def blR (F : Nat) : List St → List Bd → Nat → MS → Option MS
  | [], _, _, m => some m
  | s :: r, env, lab, m => (stR F s env lab m).bind fun x => blR F r x.2 (lab + labelsS s) x.1
end
theorem blR_nil (F : Nat) (env : List Bd) (lab : Nat) (m : MS) : blR F [] env lab m = some m := by rw [blR]
theorem blR_cons (F : Nat) (s : St) (r : List St) (env : List Bd) (lab : Nat) (m : MS) : blR F (s :: r) env lab m = (stR F s env lab m).bind fun x => blR F r x.2 (lab + labelsS s) x.1 := by rw [blR]
theorem blR_drop (F : Nat) (l : List St) {q : Nat} (h : q < l.length) (env : List Bd) (lab : Nat) (m : MS) : blR F (l.drop q) env lab m = (stR F l[q] env lab m).bind fun x => blR F (l.drop (q + 1)) x.2 (lab + labelsS l[q]) x.1 := by
  rw [List.drop_eq_getElem_cons h, blR_cons]
section
variable {F : Nat} {k : Int} {s : ByteArray} {a b : Ex} {body els : List St} {env : List Bd} {lab : Nat} {m : MS}
theorem stR_other (h : k < 1 ∨ 7 < k) : stR F (.mk k s a b body els) env lab m = some (m, env) := by rw [stR, if_pos h]
theorem stR_none (h : ¬ (k < 1 ∨ 7 < k)) (hf : ¬ m.st < F) : stR F (.mk k s a b body els) env lab m = none := by rw [stR, if_neg h, if_pos hf]
theorem stR_let (hf : m.st < F) : stR F (.mk 1 s a b body els) env lab m = some (m.step, env ++ [⟨s, a.worth env⟩]) := by
  rw [stR, if_neg (by omega), if_neg (by simpa using hf), if_pos rfl]
theorem stR_load (hf : m.st < F) : stR F (.mk 2 s a b body els) env lab m = some (m.step.see (a.worth env) false lab, env ++ [⟨s, m.get (a.worth env)⟩]) := by
  rw [stR, if_neg (by omega), if_neg (by simpa using hf), if_neg (by omega), if_pos rfl]
theorem stR_store (hf : m.st < F) : stR F (.mk 3 s a b body els) env lab m = some ((m.step.see (a.worth env) true lab).put (a.worth env) (b.worth env), env) := by
  rw [stR, if_neg (by omega), if_neg (by simpa using hf), if_neg (by omega), if_neg (by omega), if_pos rfl]
theorem stR_block (hk : k = 4 ∨ k = 5) (hf : m.st < F) : stR F (.mk k s a b body els) env lab m = (blR F body env lab m.step).map fun m' => (m', env) := by
  rw [stR, if_neg (by omega), if_neg (by simpa using hf), if_neg (by omega), if_neg (by omega), if_neg (by omega), if_pos hk]
theorem stR_then (hf : m.st < F) (hw : ¬ a.worth env = 0) : stR F (.mk 6 s a b body els) env lab m = (blR F body env lab m.step).map fun m' => (m', env) := by
  rw [stR, if_neg (by omega), if_neg (by simpa using hf), if_neg (by omega), if_neg (by omega), if_neg (by omega), if_neg (by omega), if_pos rfl, if_neg hw]
theorem stR_else (hf : m.st < F) (hw : a.worth env = 0) : stR F (.mk 6 s a b body els) env lab m = (blR F els env (lab + labelsL body) m.step).map fun m' => (m', env) := by
  rw [stR, if_neg (by omega), if_neg (by simpa using hf), if_neg (by omega), if_neg (by omega), if_neg (by omega), if_neg (by omega), if_pos rfl, if_pos hw]
theorem stR_for (hf : m.st < F) : stR F (.mk 7 s a b body els) env lab m = (forR F (b.worth env) (fun i m => blR F body (env ++ [⟨s, i⟩]) lab m) (F + 1) (a.worth env) m.step).map fun m' => (m', env) := by
  rw [stR, if_neg (by omega), if_neg (by simpa using hf), if_neg (by omega), if_neg (by omega), if_neg (by omega), if_neg (by omega), if_neg (by omega)]
end
theorem forR_end {F : Nat} {b : Int} {body : Int → MS → Option MS} {n : Nat} {i : Int} {m : MS} (h : ¬ i < b) : forR F b body n i m = some m := by
  cases n <;> rw [forR, if_neg h]
theorem forR_none {F : Nat} {b : Int} {body : Int → MS → Option MS} {n : Nat} {i : Int} {m : MS} (h : i < b) (hf : ¬ m.st < F) : forR F b body n i m = none := by
  cases n <;> rw [forR, if_pos h]
  rw [if_neg hf]
theorem forR_go {F : Nat} {b : Int} {body : Int → MS → Option MS} {n : Nat} {i : Int} {m : MS} (h : i < b) (hf : m.st < F) : forR F b body (n + 1) i m = (body i m.step).bind (forR F b body n (i + 1)) := by
  rw [forR, if_pos h, if_pos hf]
theorem forR_mono {F : Nat} {b : Int} {body : Int → MS → Option MS} (hb : ∀ i m m', body i m = some m' → m.st ≤ m'.st) : ∀ (n : Nat) (i : Int) (m m' : MS), forR F b body n i m = some m' → m.st ≤ m'.st := by
  intro n
  induction n with
  | zero =>
    intro i m m' h
    rw [forR] at h
    split at h
    · cases h
    · injection h with h; subst h; exact Nat.le_refl _
  | succ n ih =>
    intro i m m' h
    rw [forR] at h
    split at h
    · split at h
      · cases hbo : body i m.step with
        | none => rw [hbo] at h; cases h
        | some m1 =>
          rw [hbo] at h
          have h1 := hb _ _ _ hbo
          have h2 := ih _ _ _ h
          simp only [MS.step] at h1
          omega
      · cases h
    · injection h with h; subst h; exact Nat.le_refl _
theorem blR_mono' (F N : Nat) : ∀ (l : List St), SizeOf.sizeOf l ≤ N → ∀ env lab m m', blR F l env lab m = some m' → m.st ≤ m'.st := by
  induction N with
  | zero =>
    intro l h
    cases l with
    | nil => intro env lab m m' e; rw [blR_nil] at e; injection e with e; subst e; exact Nat.le_refl _
    | cons s r => simp at h
  | succ N ih =>
    intro l h
    cases l with
    | nil => intro env lab m m' e; rw [blR_nil] at e; injection e with e; subst e; exact Nat.le_refl _
    | cons s r =>
      obtain ⟨k, nm, a, b, body, els⟩ := s
      simp at h
      intro env lab m m' e
      rw [blR_cons] at e
      have hb := ih body (by omega)
      have he := ih els (by omega)
      have hr := ih r (by omega)
      have key : ∀ x, stR F (.mk k nm a b body els) env lab m = some x → m.st ≤ x.1.st := by
        intro x hx
        rw [stR] at hx
        have hmap : ∀ (o : Option MS) (y : MS × List Bd), (o.map fun m' => (m', env)) = some y → ∃ z, o = some z ∧ y.1 = z := by
          intro o y hy
          obtain ⟨z, hz, rfl⟩ := Option.map_eq_some_iff.1 hy
          exact ⟨z, hz, rfl⟩
        repeat' split at hx
        · injection hx with hx; subst hx; exact Nat.le_refl _
        · cases hx
        · injection hx with hx; subst hx; exact Nat.le_succ _
        · injection hx with hx; subst hx; exact Nat.le_succ _
        · injection hx with hx; subst hx; exact Nat.le_succ _
        · obtain ⟨z, hz, hy⟩ := hmap _ _ hx
          have := hb _ _ _ _ hz
          rw [hy]; simp only [MS.step] at this; omega
        · obtain ⟨z, hz, hy⟩ := hmap _ _ hx
          have := he _ _ _ _ hz
          rw [hy]; simp only [MS.step] at this; omega
        · obtain ⟨z, hz, hy⟩ := hmap _ _ hx
          have := hb _ _ _ _ hz
          rw [hy]; simp only [MS.step] at this; omega
        · obtain ⟨z, hz, hy⟩ := hmap _ _ hx
          have := forR_mono (fun i m m' h => hb _ _ _ _ h) _ _ _ _ hz
          rw [hy]; simp only [MS.step] at this; omega
      cases hs : stR F (.mk k nm a b body els) env lab m with
      | none => rw [hs] at e; cases e
      | some x =>
        rw [hs] at e
        have h1 := key x hs
        have h2 := hr _ _ _ _ e
        omega
theorem blR_mono (F : Nat) (l : List St) (env : List Bd) (lab : Nat) (m m' : MS) (h : blR F l env lab m = some m') : m.st ≤ m'.st := blR_mono' F _ l (Nat.le_refl _) env lab m m' h
theorem list8 {l : List Int} (h : l.length = 8) : ∃ a0 a1 a2 a3 a4 a5 a6 a7, l = [a0, a1, a2, a3, a4, a5, a6, a7] := by
  match l, h with
  | [a0, a1, a2, a3, a4, a5, a6, a7], _ => exact ⟨a0, a1, a2, a3, a4, a5, a6, a7, rfl⟩
end Go.Proofs.Ytdelngmbpjgphaa
