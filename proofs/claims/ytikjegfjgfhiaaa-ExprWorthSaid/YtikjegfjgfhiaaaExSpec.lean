/- What an expression is worth, plainly. -/
import Derived.Test.YtikjegfjgfhiaaaEx1
import Derived.Test.YtikjegfjgfhiaaaTwo
import Derived.Test.YtikjegfjgfhiaaaFlat
import Derived.Laws.Strings
namespace Go.Proofs.Ytikjegfjgfhiaaa
open Go.RowKit
set_option linter.unusedVariables false
structure Bd where
  name : ByteArray
  val : Int
deriving Inhabited
def encBd (x : Bd) : List Value := [.string x.name, .int .i64 x.val]
def okBd (x : Bd) : Prop := x.name.size ≤ 140737488355328 ∧ inI x.val
abbrev RdBds := RdL (Flat encBd okBd) 2 24
/-- what the last bind of that name says -/
def look (l : List Bd) (s : ByteArray) : Int := l.foldl (fun v b => if b.name = s then b.val else v) 0
theorem look_take (l : List Bd) (s : ByteArray) {q : Nat} (hq : q < l.length) : look (l.take (q + 1)) s = if l[q].name = s then l[q].val else look (l.take q) s := by
  unfold look
  rw [List.take_add_one, List.getElem?_eq_getElem hq, Option.toList_some, List.foldl_append]
  rfl
theorem look_in (l : List Bd) (s : ByteArray) (h : ∀ x ∈ l, okBd x) : inI (look l s) := by
  unfold look
  have key : ∀ (m : List Bd) (v : Int), inI v → (∀ x ∈ m, okBd x) → inI (m.foldl (fun v b => if b.name = s then b.val else v) v) := by
    intro m
    induction m with
    | nil => intro v hv _; exact hv
    | cons b r ih =>
      intro v hv hm
      simp only [List.foldl_cons]
      apply ih
      · split
        · exact (hm b (by simp)).2
        · exact hv
      · intro x hx; exact hm x (by simp [hx])
  exact key l 0 (by decide) h
def Ex.worth (env : List Bd) (t : Ex) : Int :=
  match h : t.two with
  | some (a, b) => doE t.kind (a.worth env) (b.worth env)
  | none => if t.kind = 1 then t.num else if t.kind = 2 then look env t.name else 0
termination_by SizeOf.sizeOf t
decreasing_by all_goals (have hs := Ex.two_size h; omega)
theorem Ex.worth_two (env : List Bd) {t a b : Ex} (h : t.two = some (a, b)) : t.worth env = doE t.kind (a.worth env) (b.worth env) := by
  rw [Ex.worth]; split <;> simp_all
theorem Ex.worth_none (env : List Bd) {t : Ex} (h : t.two = none) : t.worth env = if t.kind = 1 then t.num else if t.kind = 2 then look env t.name else 0 := by
  rw [Ex.worth]; split <;> simp_all
theorem wrap64_inI (z : Int) : inI (wrap64 z) := by unfold inI wrap64; omega
theorem doE_in (k a b : Int) (ha : inI a) (hb : inI b) : inI (doE k a b) := by
  unfold doE
  split; · exact wrap64_inI _
  split; · exact wrap64_inI _
  split; · exact wrap64_inI _
  split; · split <;> decide
  split; · split <;> decide
  split; · decide
  rename_i h0
  split; · exact wrap64_inI _
  split
  · have h1 := ha.1
    have h2 := ha.2
    have h3 := hb.1
    have h4 := hb.2
    have e := Int.tmod_lt_of_pos
    have k1 : (a.tmod b).natAbs < b.natAbs := by
      rw [Int.natAbs_tmod]; exact Nat.mod_lt _ (by omega)
    unfold inI; omega
  · decide
theorem name_ne {a b : ByteArray} (h : ¬ a = b) : (a.toList == b.toList) = false := by
  rw [beq_eq_false_iff_ne]
  intro e
  rw [ByteArray.toList_eq, ByteArray.toList_eq] at e
  exact h (ByteArray.ext (Array.toList_inj.mp e))
end Go.Proofs.Ytikjegfjgfhiaaa
