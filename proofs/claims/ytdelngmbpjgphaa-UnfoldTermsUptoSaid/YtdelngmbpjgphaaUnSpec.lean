/- What a program does as a term, two ways: growing with what is left behind it; and of marks. -/
import Derived.Test.YtdelngmbpjgphaaGSrSpec
import Derived.Test.YtdelngmbpjgphaaSpSpec
namespace Go.Proofs.Ytdelngmbpjgphaa
set_option linter.unusedVariables false
structure US where
  h : List Int
  st : Nat
def US.step (m : US) : US := { m with st := m.st + 1 }
def US.get (m : US) (v : Int) : Int := m.h.getD (cellN v) 0
def US.put (m : US) (v x : Int) : US := { m with h := m.h.set (cellN v) x }
/-- the mark of what is done; those of a block within -/
inductive Mk where
  | acc (a : Acc)
  | par (l : List Mk)
  | fin (l : List Mk)
def zeroT : Tm := .mk 0 0 false 0 []
def oneT (a : Acc) : Tm := .mk 1 a.cell a.write a.label []
def twoT (k : Int) (a b : Tm) : Tm := .mk k 0 false 0 [a, b]
def accU (v : Int) (wr : Bool) (lab : Nat) : Acc := ⟨(cellN v : Int), wr, (lab : Int)⟩
mutual
def weave1 : Mk → Tm → Tm
  | .acc a, t => twoT 2 (oneT a) t
  | .par l, t => twoT 3 (weave l zeroT) t
  | .fin l, t => twoT 2 (weave l zeroT) t
def weave : List Mk → Tm → Tm
  | [], t => t
  | m :: r, t => weave1 m (weave r t)
end
theorem weave_nil (t : Tm) : weave [] t = t := by rw [weave]
theorem weave_cons (m : Mk) (r : List Mk) (t : Tm) : weave (m :: r) t = weave1 m (weave r t) := by rw [weave]
theorem weave_acc (a : Acc) (t : Tm) : weave1 (.acc a) t = twoT 2 (oneT a) t := by rw [weave1]
theorem weave_par (l : List Mk) (t : Tm) : weave1 (.par l) t = twoT 3 (weave l zeroT) t := by rw [weave1]
theorem weave_fin (l : List Mk) (t : Tm) : weave1 (.fin l) t = twoT 2 (weave l zeroT) t := by rw [weave1]
theorem weave_app (a b : List Mk) (t : Tm) : weave (a ++ b) t = weave a (weave b t) := by
  induction a with
  | nil => rw [List.nil_append, weave_nil]
  | cons m r ih => rw [List.cons_append, weave_cons, weave_cons, ih]
abbrev UK := US → Option (Tm × US)
/-- a term of kind p, of what is done within and what is behind -/
def pairU (p : Int) (x : Option (Tm × US)) (k : UK) : Option (Tm × US) := x.bind fun x => (k x.2).map fun y => (twoT p x.1 y.1, y.2)
def oneK (a : Acc) (x : Option (Tm × US)) : Option (Tm × US) := x.map fun y => (twoT 2 (oneT a) y.1, y.2)
def loopU (F : Nat) (tz : Int) (body : Int → UK → UK) : Nat → Int → UK → UK
  | 0, i, k, m => if i < tz then none else k m
  | n + 1, i, k, m => if i < tz then (if m.st < F then body i (loopU F tz body n (i + 1) k) m.step else none) else k m
mutual
def stU (F : Nat) : St → List Bd → Nat → (List Bd → UK) → UK
  | .mk k s a b body els, env, lab, on, m =>
    if k < 1 ∨ 7 < k then on env m
    else if ¬ m.st < F then none
    else if k = 1 then on (env ++ [⟨s, a.worth env⟩]) m.step
    else if k = 2 then oneK (accU (a.worth env) false lab) (on (env ++ [⟨s, m.get (a.worth env)⟩]) m.step)
    else if k = 3 then oneK (accU (a.worth env) true lab) (on env (m.step.put (a.worth env) (b.worth env)))
    else if k = 4 then pairU 3 (blU F body env lab (fun m => some (zeroT, m)) m.step) (on env)
    else if k = 5 then pairU 2 (blU F body env lab (fun m => some (zeroT, m)) m.step) (on env)
    else if k = 6 then (if a.worth env = 0 then blU F els env (lab + labelsL body) (on env) m.step else blU F body env lab (on env) m.step)
    else loopU F (b.worth env) (fun i K m => blU F body (env ++ [⟨s, i⟩]) lab K m) (F + 1) (a.worth env) (on env) m.step
def blU (F : Nat) : List St → List Bd → Nat → UK → UK
  | [], _, _, k, m => k m
  | s :: r, env, lab, k, m => stU F s env lab (fun env' m' => blU F r env' (lab + labelsS s) k m') m
end
/-- the same by marks -/
def loopN (F : Nat) (tz : Int) (body : Int → US → Option (List Mk × US)) : Nat → Int → US → Option (List Mk × US)
  | 0, i, m => if i < tz then none else some ([], m)
  | n + 1, i, m => if i < tz then (if m.st < F then (body i m.step).bind fun x => (loopN F tz body n (i + 1) x.2).map fun y => (x.1 ++ y.1, y.2) else none) else some ([], m)
mutual
def stN (F : Nat) : St → List Bd → Nat → US → Option (List Mk × US × List Bd)
  | .mk k s a b body els, env, lab, m =>
    if k < 1 ∨ 7 < k then some ([], m, env)
    else if ¬ m.st < F then none
    else if k = 1 then some ([], m.step, env ++ [⟨s, a.worth env⟩])
    else if k = 2 then some ([.acc (accU (a.worth env) false lab)], m.step, env ++ [⟨s, m.get (a.worth env)⟩])
    else if k = 3 then some ([.acc (accU (a.worth env) true lab)], m.step.put (a.worth env) (b.worth env), env)
    else if k = 4 then (blN F body env lab m.step).map fun x => ([.par x.1], x.2, env)
    else if k = 5 then (blN F body env lab m.step).map fun x => ([.fin x.1], x.2, env)
    else if k = 6 then (if a.worth env = 0 then blN F els env (lab + labelsL body) m.step else blN F body env lab m.step).map fun x => (x.1, x.2, env)
    else (loopN F (b.worth env) (fun i m => blN F body (env ++ [⟨s, i⟩]) lab m) (F + 1) (a.worth env) m.step).map fun x => (x.1, x.2, env)
def blN (F : Nat) : List St → List Bd → Nat → US → Option (List Mk × US)
  | [], _, _, m => some ([], m)
  | s :: r, env, lab, m => (stN F s env lab m).bind fun x => (blN F r x.2.2 (lab + labelsS s) x.2.1).map fun y => (x.1 ++ y.1, y.2)
end
theorem blU_nil (F : Nat) (env : List Bd) (lab : Nat) (k : UK) (m : US) : blU F [] env lab k m = k m := by rw [blU]
theorem blU_cons (F : Nat) (s : St) (r : List St) (env : List Bd) (lab : Nat) (k : UK) (m : US) : blU F (s :: r) env lab k m = stU F s env lab (fun env' m' => blU F r env' (lab + labelsS s) k m') m := by rw [blU]
theorem blN_nil (F : Nat) (env : List Bd) (lab : Nat) (m : US) : blN F [] env lab m = some ([], m) := by rw [blN]
theorem blN_cons (F : Nat) (s : St) (r : List St) (env : List Bd) (lab : Nat) (m : US) : blN F (s :: r) env lab m = (stN F s env lab m).bind fun x => (blN F r x.2.2 (lab + labelsS s) x.2.1).map fun y => (x.1 ++ y.1, y.2) := by rw [blN]
/-- marks, and what is behind them -/
def onM (x : Option (List Mk × US)) (k : UK) : Option (Tm × US) := x.bind fun y => (k y.2).map fun z => (weave y.1 z.1, z.2)
theorem onM_nil (m : US) (k : UK) : onM (some ([], m)) k = k m := by
  unfold onM
  simp only [Option.bind_some, weave_nil]
  cases k m <;> rfl
theorem loop_law {F : Nat} {tz : Int} {bodyU : Int → UK → UK} {bodyN : Int → US → Option (List Mk × US)} (hb : ∀ i K m, bodyU i K m = onM (bodyN i m) K) : ∀ (n : Nat) (i : Int) (k : UK) (m : US), loopU F tz bodyU n i k m = onM (loopN F tz bodyN n i m) k := by
  intro n
  induction n with
  | zero =>
    intro i k m
    rw [loopU, loopN]
    by_cases h : i < tz
    · rw [if_pos h, if_pos h]; rfl
    · rw [if_neg h, if_neg h, onM_nil]
  | succ n ih =>
    intro i k m
    rw [loopU, loopN]
    by_cases h : i < tz
    · rw [if_pos h, if_pos h]
      by_cases hf : m.st < F
      · rw [if_pos hf, if_pos hf, hb]
        unfold onM
        cases e : bodyN i m.step with
        | none => rfl
        | some x =>
          simp only [Option.bind_some]
          rw [ih]
          unfold onM
          cases e2 : loopN F tz bodyN n (i + 1) x.2 with
          | none => rfl
          | some y =>
            simp only [Option.bind_some, Option.map_some, Option.map_map]
            cases k y.2 with
            | none => rfl
            | some z => simp [weave_app]
      · rw [if_neg hf, if_neg hf]; rfl
    · rw [if_neg h, if_neg h, onM_nil]
theorem unfold_law' (F N : Nat) : ∀ (l : List St), SizeOf.sizeOf l ≤ N → ∀ env lab k m, blU F l env lab k m = onM (blN F l env lab m) k := by
  induction N with
  | zero =>
    intro l h
    cases l with
    | nil => intro env lab k m; rw [blU_nil, blN_nil, onM_nil]
    | cons s r => simp at h
  | succ N ih =>
    intro l h
    cases l with
    | nil => intro env lab k m; rw [blU_nil, blN_nil, onM_nil]
    | cons s r =>
      obtain ⟨kd, nm, a, b, body, els⟩ := s
      simp at h
      intro env lab k m
      rw [blU_cons, blN_cons]
      have hb := ih body (by omega)
      have he := ih els (by omega)
      have hr := ih r (by omega)
      have hz : ∀ (x : Option (List Mk × US)), onM x (fun m => some (zeroT, m)) = x.map fun y => (weave y.1 zeroT, y.2) := by
        intro x
        unfold onM
        cases x <;> rfl
      have key : ∀ (on : List Bd → UK), stU F (.mk kd nm a b body els) env lab on m = (stN F (.mk kd nm a b body els) env lab m).bind fun x => (on x.2.2 x.2.1).map fun z => (weave x.1 z.1, z.2) := by
        intro on
        rw [stU, stN]
        have hnil : ∀ e m, (some (([] : List Mk), (m : US), (e : List Bd))).bind (fun x => (on x.2.2 x.2.1).map fun z => (weave x.1 z.1, z.2)) = on e m := by
          intro e m
          simp only [Option.bind_some, weave_nil]
          cases on e m <;> rfl
        have hone : ∀ ac e m, (some ([Mk.acc ac], (m : US), (e : List Bd))).bind (fun x => (on x.2.2 x.2.1).map fun z => (weave x.1 z.1, z.2)) = oneK ac (on e m) := by
          intro ac e m
          simp only [Option.bind_some, weave_cons, weave_nil, weave_acc]
          rfl
        have hpr : ∀ (p : Int) (W : List Mk → Mk), (∀ l t, weave1 (W l) t = twoT p (weave l zeroT) t) → ∀ (x : Option (List Mk × US)), pairU p (onM x (fun m => some (zeroT, m))) (on env) = (x.map fun x => ([W x.1], x.2, env)).bind fun x => (on x.2.2 x.2.1).map fun z => (weave x.1 z.1, z.2) := by
          intro p W hW x
          rw [hz]
          cases x with
          | none => rfl
          | some x =>
            simp only [pairU, Option.map_some, Option.bind_some, weave_cons, weave_nil, hW]
        have hon : ∀ (x : Option (List Mk × US)), onM x (on env) = (x.map fun x => (x.1, x.2, env)).bind fun x => (on x.2.2 x.2.1).map fun z => (weave x.1 z.1, z.2) := by
          intro x
          unfold onM
          cases x <;> rfl
        split
        · rw [hnil]
        · split
          · rfl
          · split
            · rw [hnil]
            · split
              · rw [hone]
              · split
                · rw [hone]
                · split
                  · rw [hb, hpr 3 Mk.par weave_par]
                  · split
                    · rw [hb, hpr 2 Mk.fin weave_fin]
                    · split
                      · split
                        · rw [he, hon]
                        · rw [hb, hon]
                      · rw [loop_law (bodyU := fun (i : Int) (K : UK) (m : US) => blU F body (env ++ [(⟨nm, i⟩ : Bd)]) lab K m) (bodyN := fun (i : Int) (m : US) => blN F body (env ++ [(⟨nm, i⟩ : Bd)]) lab m) (fun i K m => hb (env ++ [(⟨nm, i⟩ : Bd)]) lab K m), hon]
      rw [key]
      cases e : stN F (.mk kd nm a b body els) env lab m with
      | none => rfl
      | some x =>
        simp only [Option.bind_some]
        rw [hr]
        unfold onM
        cases e2 : blN F r x.2.2 (lab + labelsS (.mk kd nm a b body els)) x.2.1 with
        | none => rfl
        | some y =>
          simp only [Option.bind_some, Option.map_some, Option.map_map]
          cases k y.2 with
          | none => rfl
          | some z => simp [weave_app]
theorem unfold_law (F : Nat) (l : List St) (env : List Bd) (lab : Nat) (k : UK) (m : US) : blU F l env lab k m = onM (blN F l env lab m) k := unfold_law' F _ l (Nat.le_refl _) env lab k m
end Go.Proofs.Ytdelngmbpjgphaa
