/- Two arrays of truth values: '==', cell by cell. -/
import Derived.Test.YthbbecmffndgdaaBase
import Derived.ChangeKeysEq
namespace Go.Proofs.Ythbbecmffndgdaa
open Go.RowKit
set_option linter.unusedVariables false
theorem run_eq_bools {P : Program} (w : World) (d n : Nat) (t e : TypeId) (ht : P.underlying t = some (.array n e)) (he : P.underlying e = some .bool)
    (hz : ∀ w, (sizeOf e).run P w = .ok 1 w) (hp : ∀ (cs : Array Value) (i : Nat) (v : Value) (w : World), cs[i]? = some v → (part e cs i).run P w = .ok v w)
    (xs ys : List Bool) (hx : xs.length = n) (hy : ys.length = n) :
    (Op.equalIn (d + 2) t (.agg (xs.map Value.bool).toArray) (.agg (ys.map Value.bool).toArray)).run P w = .ok (xs == ys) w := by
  rw [Op.equalIn]
  simp only [Sem.run_bind, run_underlying ht, Result.andThen_ok, hz]
  rw [Std.Legacy.Range.forIn_eq_forIn_range']
  have key : ∀ (F : Option Bool × Unit → Sem Bool), (∀ r, F (some r, ()) = pure r) → F (none, ()) = pure true → ∀ (k i : Nat), i + k = n → ((Sem.run P (forIn (List.range' i k 1) ((none, ()) : Option Bool × Unit) fun i __s => do
            let __do_lift ← part e (List.map Value.bool xs).toArray (i * 1)
            let __do_lift_1 ← part e (List.map Value.bool ys).toArray (i * 1)
            let __do_lift ← Op.equalIn (d + 1) e __do_lift __do_lift_1
            if (!__do_lift) = true then pure (ForInStep.done ((some false, ()) : Option Bool × Unit)) else pure (ForInStep.yield ((none, ()) : Option Bool × Unit))) w).andThen
      fun a w' => Sem.run P (F a) w') = Result.ok (xs.drop i == ys.drop i) w := by
    intro F hF1 hF2 k
    induction k with
    | zero =>
      intro i hi
      rw [List.drop_eq_nil_of_le (by omega), List.drop_eq_nil_of_le (by omega)]
      simp [hF2]
    | succ k ih =>
      intro i hi
      have hxi : i < xs.length := by omega
      have hyi : i < ys.length := by omega
      rw [List.range'_succ, List.forIn_cons]
      simp only [Nat.mul_one, Sem.run_bind]
      rw [hp _ i (.bool xs[i]) w (by simp [hxi]), Result.andThen_ok, hp _ i (.bool ys[i]) w (by simp [hyi]), Result.andThen_ok, run_equalIn_bool w d e _ _ he, Result.andThen_ok]
      rw [List.drop_eq_getElem_cons hxi, List.drop_eq_getElem_cons hyi]
      cases hb : (xs[i] == ys[i])
      · have : (xs[i] :: xs.drop (i + 1) == ys[i] :: ys.drop (i + 1)) = false := by rw [List.cons_beq_cons, hb, Bool.false_and]
        rw [this]
        simp [hF1]
      · have : (xs[i] :: xs.drop (i + 1) == ys[i] :: ys.drop (i + 1)) = (xs.drop (i + 1) == ys.drop (i + 1)) := by rw [List.cons_beq_cons, hb, Bool.true_and]
        rw [this, ← ih (i + 1) (by omega)]
        simp
  have h0 := fun F h1 h2 => key F h1 h2 n 0 (by omega)
  simp only [List.drop_zero] at h0
  have hs : ([:n] : Std.Legacy.Range).size = n := by simp
  rw [hs]
  refine h0 _ ?_ ?_
  · intro r; rfl
  · rfl
end Go.Proofs.Ythbbecmffndgdaa
