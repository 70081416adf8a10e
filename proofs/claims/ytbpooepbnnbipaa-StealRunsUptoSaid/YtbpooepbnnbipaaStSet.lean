/- Settling, plainly: steps of one among all workers; the least measure. -/
import Derived.Test.YtbpooepbnnbipaaSy1
namespace Go.Proofs.Ytbpooepbnnbipaa
open Go.RowKit
set_option linter.unusedVariables false
theorem exists_least {P : Nat → Prop} (h : ∃ n, P n) : ∃ n, P n ∧ ∀ m, P m → n ≤ m := by
  obtain ⟨n, hn⟩ := h
  induction n using Nat.strongRecOn with
  | ind n ih =>
    by_cases hx : ∃ m, m < n ∧ P m
    · obtain ⟨m, hm, hp⟩ := hx
      exact ih m hm hp
    · refine ⟨n, hn, fun m hp => ?_⟩
      rcases Nat.lt_or_ge m n with hlt | hge
      · exact absurd ⟨m, hlt, hp⟩ hx
      · exact hge
open Classical in
noncomputable def leastN (P : Nat → Prop) : Nat := if h : ∃ n, P n then Classical.choose (exists_least h) else 0
theorem least_spec {P : Nat → Prop} (h : ∃ n, P n) : P (leastN P) ∧ ∀ m, P m → leastN P ≤ m := by
  unfold leastN
  rw [dif_pos h]
  exact Classical.choose_spec (exists_least h)
theorem But.on {T U : Blocks} {a b c : World} (h : But T a b) (k : But U b c) (hs : ∀ x, x < a.heap.size → U x → T x) : But T a c :=
  ⟨k.os.trans h.os, k.tape.trans h.tape, k.output.trans h.output, Nat.le_trans h.size k.size, fun x hx ht => (k.block x (Nat.lt_of_lt_of_le hx h.size) (fun hu => ht (hs x hx hu))).trans (h.block x hx ht)⟩
theorem put_self (s : Vs) (w : Nat) (h1 : w < s.at_.length) (h2 : w < s.qs.length) : s.put w (s.one w) = s := by
  unfold Vs.put Vs.one
  rw [List.getElem?_eq_getElem h1, List.getElem?_eq_getElem h2]
  simp
theorem put_put (s : Vs) (w : Nat) (c d : Ca) : (s.put w c).put w d = s.put w d := by
  unfold Vs.put; simp
section
variable {t : Tm} {k w : Nat} {s : Vs}
theorem VAt.step (h : VAt t k w s) (hw : w < k) {c : Ca} (hs : calmS t (s.one w) = some c) : VAt t k w (s.put w c) ∧ calmW t (s.put w c) w = calmW t s w ∧ muT t ((s.put w c).one w) < muT t (s.one w) := by
  obtain ⟨h1, h2, _⟩ := calmS_ok t (othV s w) (s.one w) c h.tok hs
  have e : (s.put w c).one w = c := one_put s w c (by rw [h.la]; exact hw) (by rw [h.lq]; exact hw)
  refine ⟨h.put hw h1, ?_, by rw [e]; exact h2⟩
  unfold calmW
  rw [put_put, e, calmT_step h.tok hs]
theorem VAt.stop (h : VAt t k w s) (hw : w < k) (hs : calmS t (s.one w) = none) : calmW t s w = s := by
  unfold calmW
  rw [calmT_none hs]
  exact put_self s w (by rw [h.la]; exact hw) (by rw [h.lq]; exact hw)
theorem VAt.qlen (h : VAt t k w s) {p : Pt} (hp : (s.one w).at_ = some p) : (s.one w).q.length < (nodesT t).length := by
  have := h.tok.len
  rw [hp] at this
  simp at this
  omega
theorem calmS_two {t : Tm} {s : Ca} {p : Pt} {x a b : Tm} {par : Bool} (ha : s.at_ = some p) (hx : subT t p = some x) (h2 : x.two = some (par, a, b)) : calmS t s = some ⟨some (false :: p), s.dn, if par then s.q ++ [true :: p] else s.q⟩ := by
  unfold calmS; rw [ha]; simp only [hx, h2]
theorem calmS_leaf {t : Tm} {s : Ca} {p : Pt} {x : Tm} (ha : s.at_ = some p) (hx : subT t p = some x) (h2 : x.two = none) (hk : x.kind = 1) : calmS t s = none := by
  unfold calmS; rw [ha]; simp only [hx, h2, hk, if_true]
theorem calmS_other {t : Tm} {s : Ca} {p : Pt} {x : Tm} (ha : s.at_ = some p) (hx : subT t p = some x) (h2 : x.two = none) (hk : x.kind ≠ 1) : calmS t s = some ⟨(endP t s.dn s.q p).1, (endP t s.dn s.q p).2.1, (endP t s.dn s.q p).2.2⟩ := by
  unfold calmS; rw [ha]; simp only [hx, h2, if_neg hk]
theorem calmS_idle {t : Tm} {s : Ca} (ha : s.at_ = none) : calmS t s = none := by
  unfold calmS; rw [ha]
end
/-- the kinds of a part -/
theorem partP_leaf {t x : Tm} {p : Pt} (h : subT t p = some x) (h2 : x.two = none) (hk : x.kind = 1) : partP t p = ⟨1, (lfP t p : Int), 0, 0, upN t p, lastB p⟩ := by
  rw [partP_at h]; unfold onePart; rw [h2]; simp [hk]
theorem partP_other {t x : Tm} {p : Pt} (h : subT t p = some x) (h2 : x.two = none) (hk : x.kind ≠ 1) : partP t p = ⟨0, -1, 0, 0, upN t p, lastB p⟩ := by
  rw [partP_at h]; unfold onePart; rw [h2]; simp [hk]
section
variable (base y : Nat) (t : Tm) (k N gp cp ga ca gq cq : Nat) (ds : List Nat) (lv : Int) (od : Value) (wk : Nat)
/-- what holds ahead of each round of settle -/
def SInv (w0 : World) (col : Nat → Nat) (s : Vs) (wr : World) (s1 : Vs) : Prop := ∃ col1, Yd base wr y col1 t k N gp cp ga ca gq cq ds lv od s1 ∧ VAt t k wk s1 ∧ calmW t s1 wk = calmW t s wk ∧ (∀ b, b < w0.heap.size → col1 b = col b) ∧ But (Yc col) w0 wr
noncomputable def muW (w0 : World) (col : Nat → Nat) (s : Vs) (wr : World) : Nat := leastN fun n => ∃ s1, SInv base y t k N gp cp ga ca gq cq ds lv od wk w0 col s wr s1 ∧ muT t (s1.one wk) = n
end
section
variable {base y : Nat} {t : Tm} {k N gp cp ga ca gq cq : Nat} {ds : List Nat} {lv : Int} {od : Value} {wk : Nat} {w0 wr wr' : World} {col : Nat → Nat} {s s1 s2 : Vs}
theorem SInv.least (h : ∃ s1, SInv base y t k N gp cp ga ca gq cq ds lv od wk w0 col s wr s1) : ∃ s1, SInv base y t k N gp cp ga ca gq cq ds lv od wk w0 col s wr s1 ∧ muT t (s1.one wk) = muW base y t k N gp cp ga ca gq cq ds lv od wk w0 col s wr := by
  obtain ⟨s1, h⟩ := h
  exact (least_spec (P := fun n => ∃ s1, SInv base y t k N gp cp ga ca gq cq ds lv od wk w0 col s wr s1 ∧ muT t (s1.one wk) = n) ⟨_, s1, h, rfl⟩).1
theorem SInv.lt (h1 : muT t (s1.one wk) = muW base y t k N gp cp ga ca gq cq ds lv od wk w0 col s wr) (h2 : SInv base y t k N gp cp ga ca gq cq ds lv od wk w0 col s wr' s2) (hlt : muT t (s2.one wk) < muT t (s1.one wk)) : muW base y t k N gp cp ga ca gq cq ds lv od wk w0 col s wr' < muW base y t k N gp cp ga ca gq cq ds lv od wk w0 col s wr := by
  have := (least_spec (P := fun n => ∃ s1, SInv base y t k N gp cp ga ca gq cq ds lv od wk w0 col s wr' s1 ∧ muT t (s1.one wk) = n) ⟨_, s2, h2, rfl⟩).2 _ ⟨s2, h2, rfl⟩
  exact Nat.lt_of_le_of_lt this (by omega)
/-- the world has gone on: what a round owes -/
theorem SInv.next (h : SInv base y t k N gp cp ga ca gq cq ds lv od wk w0 col s wr s1) (hw : wk < k) {c : Ca} (hs : calmS t (s1.one wk) = some c) {col1 col2 : Nat → Nat} (hc : ∀ b, b < w0.heap.size → col1 b = col b) (hc2 : ∀ b, b < wr.heap.size → col2 b = col1 b)
    (hb : But (Yc col1) wr wr') (hY : Yd base wr' y col2 t k N gp cp ga ca gq cq ds lv od (s1.put wk c)) : SInv base y t k N gp cp ga ca gq cq ds lv od wk w0 col s wr' (s1.put wk c) ∧ muT t ((s1.put wk c).one wk) < muT t (s1.one wk) := by
  obtain ⟨_, _, h2, h3, _, h5⟩ := h
  obtain ⟨k1, k2, k3⟩ := h2.step hw hs
  refine ⟨⟨col2, hY, k1, k2.trans h3, fun b hb => (hc2 b (Nat.lt_of_lt_of_le hb h5.size)).trans (hc b hb), h5.on hb fun x hx hu => ?_⟩, k3⟩
  unfold Yc at *
  rw [← hc x hx]; exact hu
end
end Go.Proofs.Ytbpooepbnnbipaa
