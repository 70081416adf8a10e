/- Stealing, plainly: places by number; all workers; it goes on as picked. -/
import Derived.Test.YtbpooepbnnbipaaStSpec
namespace Go.Proofs.Ytbpooepbnnbipaa
set_option linter.unusedVariables false
/-- the number of a place, in the order in which they are laid -/
def nmP (t : Tm) : Pt → Nat
  | [] => 0
  | b :: up => nmP t up + 1 + (if b then match twoT t up with | some (_, x, _) => (nodesT x).length | none => 0 else 0)
/-- how many leaves are ahead of a place -/
def lfP (t : Tm) : Pt → Nat
  | [] => 0
  | b :: up => lfP t up + (if b then match twoT t up with | some (_, x, _) => x.count | none => 0 else 0)
theorem twoT_snoc {t x y : Tm} {par : Bool} (h : t.two = some (par, x, y)) (b : Bool) (q : Pt) : twoT t (q ++ [b]) = twoT (if b then y else x) q := by
  unfold twoT; rw [subT_snoc t x y par h b q]
theorem nm_snoc {t x y : Tm} {par : Bool} (h : t.two = some (par, x, y)) (b : Bool) : ∀ q : Pt, nmP t (q ++ [b]) = 1 + (if b then (nodesT x).length else 0) + nmP (if b then y else x) q := by
  intro q
  induction q with
  | nil =>
    show nmP t [b] = _
    have e : twoT t [] = some (par, x, y) := by unfold twoT; simp [subT, h]
    simp only [nmP, e]
    cases b <;> simp <;> omega
  | cons c q ih =>
    rw [List.cons_append]
    simp only [nmP]
    rw [ih, twoT_snoc h]
    omega
theorem lf_snoc {t x y : Tm} {par : Bool} (h : t.two = some (par, x, y)) (b : Bool) : ∀ q : Pt, lfP t (q ++ [b]) = (if b then x.count else 0) + lfP (if b then y else x) q := by
  intro q
  induction q with
  | nil =>
    show lfP t [b] = _
    have e : twoT t [] = some (par, x, y) := by unfold twoT; simp [subT, h]
    simp only [lfP, e]
    cases b <;> simp
  | cons c q ih =>
    rw [List.cons_append]
    simp only [lfP]
    rw [ih, twoT_snoc h]
    omega
theorem nodes_at (t : Tm) : ∀ p : Pt, (subT t p).isSome = true → (nodesT t)[nmP t p]? = some p := by
  induction t using Tm.ind with
  | one t h =>
    intro p hp
    rw [nodesT_none h]
    rcases nil_or_snoc p with rfl | ⟨q, b, rfl⟩
    · rfl
    · rw [subT_snoc_none t h] at hp; cases hp
  | two t par x y h hx hy =>
    intro p hp
    rw [nodesT_two h]
    rcases nil_or_snoc p with rfl | ⟨q, b, rfl⟩
    · rfl
    · rw [subT_snoc t x y par h] at hp
      rw [nm_snoc h]
      cases b with
      | false =>
        have h1 := hx q (by simpa using hp)
        obtain ⟨hlt, he⟩ := List.getElem?_eq_some_iff.1 h1
        simp only [Bool.false_eq_true, if_false, Nat.add_zero]
        rw [show 1 + nmP x q = nmP x q + 1 by omega, List.getElem?_cons_succ, List.getElem?_append_left (by simpa using hlt), List.getElem?_map, h1]; rfl
      | true =>
        have h1 := hy q (by simpa using hp)
        simp only [if_true]
        rw [show 1 + (nodesT x).length + nmP y q = ((nodesT x).length + nmP y q) + 1 by omega, List.getElem?_cons_succ, List.getElem?_append_right (by simp), List.getElem?_map]
        rw [show (nodesT x).length + nmP y q - ((nodesT x).map (· ++ [false])).length = nmP y q by simp, h1]; rfl
theorem nm_lt {t : Tm} {p : Pt} (h : (subT t p).isSome = true) : nmP t p < (nodesT t).length := (List.getElem?_eq_some_iff.1 (nodes_at t p h)).1
theorem nm_inj {t : Tm} {p q : Pt} (hp : (subT t p).isSome = true) (hq : (subT t q).isSome = true) (h : nmP t p = nmP t q) : p = q := by
  have h1 := nodes_at t p hp
  rw [h, nodes_at t q hq] at h1
  exact (Option.some.inj h1).symm
/-- a part of a term, as the program lays it; whether it is done stands beside it -/
structure PtP where
  kind : Int
  leaf : Int
  left : Int
  right : Int
  up : Int
  onR : Bool
def upN (t : Tm) : Pt → Int
  | [] => -1
  | _ :: up => (nmP t up : Int)
def lastB : Pt → Bool
  | [] => false
  | b :: _ => b
def onePart (x : Tm) (n : Nat) (up : Int) (onR : Bool) (lv : Nat) : PtP := match x.two with
  | some (par, a, _) => ⟨if par then 3 else 2, -1, ((n + 1 : Nat) : Int), ((n + 1 + (nodesT a).length : Nat) : Int), up, onR⟩
  | none => if x.kind = 1 then ⟨1, (lv : Int), 0, 0, up, onR⟩ else ⟨0, -1, 0, 0, up, onR⟩
def layP (x : Tm) (n : Nat) (up : Int) (onR : Bool) (lv : Nat) : List PtP :=
  match h : x.two with
  | some (_, a, b) => onePart x n up onR lv :: (layP a (n + 1) (n : Int) false lv ++ layP b (n + 1 + (nodesT a).length) (n : Int) true (lv + a.count))
  | none => [onePart x n up onR lv]
termination_by SizeOf.sizeOf x
decreasing_by all_goals (have hs := Tm.two_size h; omega)
theorem layP_two {x a b : Tm} {par : Bool} (h : x.two = some (par, a, b)) (n : Nat) (up : Int) (onR : Bool) (lv : Nat) : layP x n up onR lv = onePart x n up onR lv :: (layP a (n + 1) (n : Int) false lv ++ layP b (n + 1 + (nodesT a).length) (n : Int) true (lv + a.count)) := by
  rw [layP]; split <;> simp_all
theorem layP_none {x : Tm} (h : x.two = none) (n : Nat) (up : Int) (onR : Bool) (lv : Nat) : layP x n up onR lv = [onePart x n up onR lv] := by
  rw [layP]; split <;> simp_all
theorem layP_len (x : Tm) : ∀ (n : Nat) (up : Int) (onR : Bool) (lv : Nat), (layP x n up onR lv).length = (nodesT x).length := by
  induction x using Tm.ind with
  | one t h => intro n up onR lv; rw [layP_none h, nodesT_none h]; rfl
  | two t par x y h hx hy => intro n up onR lv; rw [layP_two h, nodesT_two h]; simp [hx, hy]
def partP (t : Tm) (p : Pt) : PtP := match subT t p with
  | some x => onePart x (nmP t p) (upN t p) (lastB p) (lfP t p)
  | none => ⟨0, 0, 0, 0, 0, false⟩
theorem partP_at {t x : Tm} {p : Pt} (h : subT t p = some x) : partP t p = onePart x (nmP t p) (upN t p) (lastB p) (lfP t p) := by unfold partP; rw [h]
theorem layP_eq (t : Tm) : ∀ (x : Tm) (p : Pt), subT t p = some x → layP x (nmP t p) (upN t p) (lastB p) (lfP t p) = (nodesT x).map fun q => partP t (q ++ p) := by
  intro x
  induction x using Tm.ind with
  | one x h =>
    intro p hp
    rw [layP_none h, nodesT_none h]
    simp [partP_at hp]
  | two x par a b h ha hb =>
    intro p hp
    have h2 : twoT t p = some (par, a, b) := by unfold twoT; rw [hp]; exact h
    have hl : subT t (false :: p) = some a := by simpa using subT_kid h2 false
    have hr : subT t (true :: p) = some b := by simpa using subT_kid h2 true
    have e1 := ha (false :: p) hl
    have e2 := hb (true :: p) hr
    have n1 : nmP t (false :: p) = nmP t p + 1 := by simp [nmP]
    have n2 : nmP t (true :: p) = nmP t p + 1 + (nodesT a).length := by simp [nmP, h2]
    have l1 : lfP t (false :: p) = lfP t p := by simp [lfP]
    have l2 : lfP t (true :: p) = lfP t p + a.count := by simp [lfP, h2]
    rw [layP_two h, nodesT_two h]
    rw [n1, l1] at e1
    rw [n2, l2] at e2
    simp only [upN, lastB] at e1 e2
    rw [e1, e2]
    simp only [List.map_cons, List.map_append, List.map_map, List.nil_append]
    rw [partP_at hp]
    congr 1
    congr 1
    · exact List.map_congr_left (fun q _ => by simp [List.append_assoc])
    · exact List.map_congr_left (fun q _ => by simp [List.append_assoc])
theorem layP_all (t : Tm) : layP t 0 (-1) false 0 = (nodesT t).map (partP t) := by
  have h := layP_eq t t [] rfl
  simp only [nmP, upN, lastB, lfP, List.append_nil] at h
  exact h
/-- all workers -/
structure Vs where
  at_ : List (Option Pt)
  qs : List (List Pt)
  dn : Pt → Bool
  out : List (Nat × Nat)
def Vs.one (s : Vs) (w : Nat) : Ca := ⟨(s.at_[w]?).getD none, s.dn, (s.qs[w]?).getD []⟩
def Vs.put (s : Vs) (w : Nat) (c : Ca) : Vs := ⟨s.at_.set w c.at_, s.qs.set w c.q, c.dn, s.out⟩
def calmW (t : Tm) (s : Vs) (w : Nat) : Vs := s.put w (calmT t (s.one w))
def endV (t : Tm) (s : Vs) (w : Nat) (p : Pt) : Vs := ⟨s.at_.set w (endP t s.dn ((s.qs[w]?).getD []) p).1, s.qs.set w (endP t s.dn ((s.qs[w]?).getD []) p).2.2, (endP t s.dn ((s.qs[w]?).getD []) p).2.1, s.out ++ [(w, lfP t p)]⟩
def stealV (s : Vs) (w v : Nat) : Vs := match (s.qs[v]?).getD [] with
  | [] => s
  | k :: r => ⟨s.at_.set w (some k), s.qs.set v r, s.dn, s.out⟩
def actV (t : Tm) (s : Vs) (w : Nat) (whom : Int) : Vs := match (s.at_[w]?).getD none with
  | some p => endV t s w p
  | none => if 0 ≤ whom ∧ whom < s.at_.length ∧ whom ≠ w then stealV s w whom.toNat else s
def pickV (t : Tm) (s : Vs) (who whom : Int) : Vs := if 0 ≤ who ∧ who < s.at_.length then calmW t (actV t s who.toNat whom) who.toNat else s
def startV (t : Tm) (k : Nat) : Vs := calmW t ⟨(List.replicate k none).set 0 (some []), List.replicate k [], fun _ => false, []⟩ 0
def runV (t : Tm) (k : Nat) (ps : List (Int × Int)) : Vs := ps.foldl (fun s p => pickV t s p.1 p.2) (startV t k)
theorem runV_snoc (t : Tm) (k : Nat) (ps : List (Int × Int)) (p : Int × Int) : runV t k (ps ++ [p]) = pickV t (runV t k ps) p.1 p.2 := by unfold runV; rw [List.foldl_append]; rfl
/-- who has which: those of one worker ahead -/
def othV (s : Vs) (w : Nat) : List Pt := (s.at_.eraseIdx w).filterMap id ++ (s.qs.eraseIdx w).flatten
def tokV (s : Vs) : List Pt := s.at_.filterMap id ++ s.qs.flatten
theorem erase_perm {α : Type} (l : List α) (w : Nat) (h : w < l.length) : l.Perm (l[w] :: l.eraseIdx w) := by
  induction l generalizing w with
  | nil => simp at h
  | cons a l ih =>
    cases w with
    | zero => simp
    | succ w =>
      have := ih w (by simpa using h)
      simp only [List.getElem_cons_succ, List.eraseIdx_cons_succ]
      exact (List.Perm.cons a this).trans (List.Perm.swap _ _ _)
theorem tok_perm (s : Vs) (w : Nat) (h1 : w < s.at_.length) (h2 : w < s.qs.length) : (tokV s).Perm ((s.one w).at_.toList ++ ((s.one w).q ++ othV s w)) := by
  unfold tokV othV Vs.one
  rw [List.getElem?_eq_getElem h1, List.getElem?_eq_getElem h2]
  simp only [Option.getD_some]
  have p1 : (s.at_.filterMap id).Perm ((s.at_[w]).toList ++ (s.at_.eraseIdx w).filterMap id) := by
    refine ((erase_perm s.at_ w h1).filterMap id).trans ?_
    cases h : s.at_[w] <;> simp [h]
  have p2 : (s.qs.flatten).Perm (s.qs[w] ++ (s.qs.eraseIdx w).flatten) := by
    have := (erase_perm s.qs w h2).flatten
    simpa using this
  refine (p1.append p2).trans ?_
  simp only [List.append_assoc]
  refine List.Perm.append_left _ ?_
  rw [← List.append_assoc, ← List.append_assoc]
  exact List.Perm.append_right _ List.perm_append_comm
theorem eraseIdx_set {α : Type} (l : List α) (w : Nat) (x : α) : (l.set w x).eraseIdx w = l.eraseIdx w := by
  induction l generalizing w with
  | nil => simp
  | cons a l ih => cases w <;> simp [ih]
theorem oth_put (s : Vs) (w : Nat) (c : Ca) : othV (s.put w c) w = othV s w := by
  unfold othV Vs.put
  simp only [eraseIdx_set]
theorem one_put (s : Vs) (w : Nat) (c : Ca) (h1 : w < s.at_.length) (h2 : w < s.qs.length) : (s.put w c).one w = c := by
  unfold Vs.put Vs.one
  simp [h1, h2]
end Go.Proofs.Ytbpooepbnnbipaa
