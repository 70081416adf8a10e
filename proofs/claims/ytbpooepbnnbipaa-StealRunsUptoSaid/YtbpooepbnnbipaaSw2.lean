/- The reference's workers, block by block. -/
import Derived.Test.YtbpooepbnnbipaaSw1
import Derived.Test.YtbpooepbnnbipaaMapS
import Derived.Test.YtbpooepbnnbipaaStSet
namespace Go.Proofs.Ytbpooepbnnbipaa
open Go.RowKit
set_option linter.unusedVariables false
theorem txtP_inj {p q : Pt} (h : txtP p = txtP q) : p = q := bytesP_inj (by
  have := congrArg (fun x : ByteArray => x.data.toList) h
  simpa using this)
/-- where a worker is, as a text -/
def txtA : Option Pt → Value
  | none => .string ⟨#[45]⟩
  | some p => .string (txtP p)
def encAt (a : Option Pt) : List Value := [txtA a]
def encTx (p : Pt) : List Value := [.string (txtP p)]
def okTx (p : Pt) : Prop := True
def encV (v : Value) : List Value := [v]
/-- blocks that nobody writes any more -/
def Old (w : World) (col : Nat → Nat) : Blocks := fun b => b < w.heap.size ∧ col b = 4
abbrev RdP := RdL (Flat encTx okTx) 1 16
def QsAt (base : Nat) (w : World) (col : Nat → Nat) (k Q : Nat) (qs : List (List Pt)) : Prop :=
  ∃ vs : List Value, vs.length = k ∧ RowAt encV 1 base w Q vs ∧ ∀ (i : Nat) v, vs[i]? = some v → RdP w (Old w col) ((qs[i]?).getD []) v
theorem QsAt.but {T : Blocks} {base k Q : Nat} {w w' : World} {col : Nat → Nat} {qs : List (List Pt)} (h : QsAt base w col k Q qs) (hb : But T w w') (hQ : ¬ T Q) (hT : ∀ b, T b → col b ≠ 4) : QsAt base w' col k Q qs := by
  obtain ⟨vs, h1, h2, h3⟩ := h
  exact ⟨vs, h1, h2.but hb hQ, fun i v hi => (h3 i v hi).keep Flat.keeps (fun b hb2 => ⟨Nat.lt_of_lt_of_le hb2.1 hb.size, hb2.2⟩) (hb.same (fun b hb2 => hb2.1) (fun b hb2 ht => hT b ht hb2.2))⟩
theorem QsAt.set {base k Q : Nat} {w : World} {col : Nat → Nat} {qs : List (List Pt)} (h : QsAt base w col k Q qs) (hq : col Q = 2) (hl : qs.length = k) {i : Nat} (hi : i < k) {q : List Pt} {v : Value} (hv : RdP w (Old w col) q v) : QsAt base (w.setCell ⟨Q, i, none⟩ v) col k Q (qs.set i q) := by
  obtain ⟨vs, h1, h2, h3⟩ := h
  have hn : ¬ Old w col Q := fun hx => by have := hx.2; rw [hq] at this; cases this
  have hO : Sub (Old w col) (Old (w.setCell ⟨Q, i, none⟩ v) col) := fun b hb => ⟨by rw [size_setCell]; exact hb.1, hb.2⟩
  refine ⟨vs.set i v, by simp [h1], h2.set1 (fun _ => rfl) (by omega) v v rfl, fun j u hj => ?_⟩
  rw [List.getElem?_set] at hj
  by_cases e : i = j
  · subst e
    rw [if_pos rfl, if_pos (by omega)] at hj
    injection hj with hj; subst hj
    have : i < qs.length := by omega
    simp only [List.getElem?_set_self this, Option.getD_some]
    exact hv.keep Flat.keeps hO (same_setCell hn v)
  · rw [if_neg e] at hj
    rw [List.getElem?_set_ne e]
    exact (h3 j u hj).keep Flat.keeps hO (same_setCell hn v)
/-- the map tells what is done -/
def MpAt (w : World) (D : Nat) (t : Tm) (dn : Pt → Bool) : Prop :=
  ∃ n f, OwnK Try.prog w 9 (.int .i64 0) D n f ∧ n + ndT t dn ≤ (nodesT t).length ∧ ∀ p, f (txtP p) = .int .i64 (if dn p then 1 else 0)
structure Vr (base : Nat) (w : World) (y : Nat) (col : Nat → Nat) (t : Tm) (k A ca Q D : Nat) (kk c lb : Int) (wr : Bool) (kv od : Value) (s : Vs) : Prop where
  hd : Blk base w y [.int .i64 kk, .int .i64 c, .bool wr, .int .i64 lb, kv, .slice (some ⟨A, 0, none⟩) k ca, .slice (some ⟨Q, 0, none⟩) k k, .map (some D), od]
  rt : ∃ S, Sub S (Upto base) ∧ RdT w S t (tmV kk c wr lb kv)
  at_ : RowAt encAt 1 base w A s.at_
  qs : QsAt base w col k Q s.qs
  mp : MpAt w D t s.dn
  dn : OwnL (Flat encDn okDn) 2 34 w base Nowhere s.out od
  ge : ∀ b, col b ≠ 4 → base ≤ b
  new : ∀ b, w.heap.size ≤ b → col b = 4
  cy : col y = 0
  cA : col A = 1
  cQ : col Q = 2
  cD : col D = 3
  co : ∀ b, od.ownBlock = some b → col b = 5
  la : s.at_.length = k
  lq : s.qs.length = k
section
variable {base : Nat} {w w' : World} {y : Nat} {col : Nat → Nat} {t : Tm} {k A ca Q D : Nat} {kk c lb : Int} {wr : Bool} {kv od : Value} {s : Vs}
theorem Vr.rtb {T : Blocks} (h : Vr base w y col t k A ca Q D kk c lb wr kv od s) (hb : But T w w') (hT : ∀ b, T b → col b ≠ 4) : ∃ S, Sub S (Upto base) ∧ RdT w' S t (tmV kk c wr lb kv) := by
  obtain ⟨S, h1, h2⟩ := h.rt
  have hbl : base ≤ w.heap.size := Nat.le_of_lt (Nat.lt_of_le_of_lt h.hd.ge h.hd.lt)
  refine ⟨S, h1, h2.but hb (h1.trans (Sub.upto hbl)) (fun b hs ht => ?_)⟩
  have e1 : b < base := h1 b hs
  have e2 := h.ge b (hT b ht)
  omega
theorem Vr.below (h : Vr base w y col t k A ca Q D kk c lb wr kv od s) (hb : Below w.heap.size w w') : Vr base w' y col t k A ca Q D kk c lb wr kv od s := by
  have hb2 := But.of_below (T := Nowhere) hb
  have n : ∀ b, ¬ Nowhere b := fun _ h => h
  refine ⟨h.hd.below hb, h.rtb hb2 (fun b hb => hb.elim), h.at_.below hb, h.qs.but hb2 (n Q) (fun b hb => hb.elim), ?_, h.dn.keep Flat.keeps hb, h.ge, fun b hx => h.new b (Nat.le_trans hb.size hx), h.cy, h.cA, h.cQ, h.cD, h.co, h.la, h.lq⟩
  obtain ⟨m, f, h1, h2⟩ := h.mp
  exact ⟨m, f, h1.below hb, h2⟩
theorem MpAt.set {T : Blocks} {dn : Pt → Bool} (h : MpAt w D t dn) (hb : But T w w') (hT : ¬ T D) : MpAt w' D t dn := by
  obtain ⟨m, f, h1, h2⟩ := h
  exact ⟨m, f, h1.but hb hT, h2⟩
/-- a part is marked as done -/
theorem Vr.mark (h : Vr base w y col t k A ca Q D kk c lb wr kv od s) {p : Pt} (hb : w.grownBy w' (some D)) (hm : MpAt w' D t (setD s.dn p)) : Vr base w' y col t k A ca Q D kk c lb wr kv od { s with dn := setD s.dn p } := by
  have hb2 := But.of_grown hb
  have n : ∀ b c, col b = c → c ≠ 3 → ¬ (some D = some b) := fun b c h2 h3 h4 => h3 (by injection h4 with h4; rw [← h2, ← h4]; exact h.cD)
  refine ⟨h.hd.but hb2 (n y 0 h.cy (by decide)), h.rtb hb2 (fun b e => by injection e with e; rw [← e, h.cD]; decide), h.at_.but hb2 (n A 1 h.cA (by decide)), h.qs.but hb2 (n Q 2 h.cQ (by decide)) (fun b e => by injection e with e; rw [← e, h.cD]; decide), hm, h.dn.but hb2 (fun b e => n b 5 (h.co b e) (by decide)), h.ge, fun b hx => h.new b (Nat.le_trans hb.size hx), h.cy, h.cA, h.cQ, h.cD, h.co, h.la, h.lq⟩
/-- a worker goes elsewhere -/
theorem Vr.move (h : Vr base w y col t k A ca Q D kk c lb wr kv od s) {i : Nat} (hi : i < k) (a : Option Pt) : Vr base (w.setCell ⟨A, i, none⟩ (txtA a)) y col t k A ca Q D kk c lb wr kv od { s with at_ := s.at_.set i a } := by
  have hb := But.setCell (T := Is A) (But.refl _ w) (p := ⟨A, i, none⟩) rfl (txtA a)
  have n : ∀ b c, col b = c → c ≠ 1 → ¬ Is A b := fun b c h2 h3 h4 => h3 (by unfold Is at h4; subst h4; exact h2.symm.trans h.cA)
  have hT : ∀ b, Is A b → col b ≠ 4 := fun b e => by have e : b = A := e; rw [e, h.cA]; decide
  exact ⟨h.hd.but hb (n y 0 h.cy (by decide)), h.rtb hb hT, h.at_.set1 (fun _ => rfl) (i := i) (by rw [h.la]; exact hi) a (txtA a) rfl, h.qs.but hb (n Q 2 h.cQ (by decide)) hT, h.mp.set hb (n D 3 h.cD (by decide)), h.dn.but hb (fun b e => n b 5 (h.co b e) (by decide)), h.ge, fun b hx => h.new b (by rw [size_setCell] at hx; exact hx), h.cy, h.cA, h.cQ, h.cD, h.co, by simp [h.la], h.lq⟩
/-- one of its queues is another -/
theorem Vr.queue (h : Vr base w y col t k A ca Q D kk c lb wr kv od s) {i : Nat} (hi : i < k) {q : List Pt} {v : Value} (hv : RdP w (Old w col) q v) : Vr base (w.setCell ⟨Q, i, none⟩ v) y col t k A ca Q D kk c lb wr kv od { s with qs := s.qs.set i q } := by
  have hb := But.setCell (T := Is Q) (But.refl _ w) (p := ⟨Q, i, none⟩) rfl v
  have n : ∀ b c, col b = c → c ≠ 2 → ¬ Is Q b := fun b c h2 h3 h4 => h3 (by unfold Is at h4; subst h4; exact h2.symm.trans h.cQ)
  have hT : ∀ b, Is Q b → col b ≠ 4 := fun b e => by have e : b = Q := e; rw [e, h.cQ]; decide
  exact ⟨h.hd.but hb (n y 0 h.cy (by decide)), h.rtb hb hT, h.at_.but hb (n A 1 h.cA (by decide)), h.qs.set h.cQ h.lq hi hv, h.mp.set hb (n D 3 h.cD (by decide)), h.dn.but hb (fun b e => n b 5 (h.co b e) (by decide)), h.ge, fun b hx => h.new b (by rw [size_setCell] at hx; exact hx), h.cy, h.cA, h.cQ, h.cD, h.co, h.la, by simp [h.lq]⟩
theorem Vr.worker (h : Vr base w y col t k A ca Q D kk c lb wr kv od s) {i : Nat} (hi : i < k) : w.cell? ⟨A, i, none⟩ = some (txtA ((s.at_[i]?).getD none)) := by
  have hl : i < s.at_.length := by rw [h.la]; exact hi
  have := h.at_.cell i s.at_[i] (List.getElem?_eq_getElem hl) 0 _ rfl
  rw [Nat.mul_one, Nat.add_zero] at this
  rw [this, List.getElem?_eq_getElem hl]; rfl
theorem Vr.deque (h : Vr base w y col t k A ca Q D kk c lb wr kv od s) {i : Nat} (hi : i < k) : ∃ B n, w.cell? ⟨Q, i, none⟩ = some (.slice B ((s.qs[i]?).getD []).length n) ∧ RdP w (Old w col) ((s.qs[i]?).getD []) (.slice B ((s.qs[i]?).getD []).length n) := by
  obtain ⟨vs, h1, h2, h3⟩ := h.qs
  have hl : i < vs.length := by omega
  have h4 := h3 i vs[i] (List.getElem?_eq_getElem hl)
  have := h2.cell i vs[i] (List.getElem?_eq_getElem hl) 0 _ rfl
  rw [Nat.mul_one, Nat.add_zero] at this
  obtain ⟨B, n, e, _⟩ := h4.form
  rw [e] at h4 this
  exact ⟨B, n, this, h4⟩
theorem Vr.qfr (h : Vr base w y col t k A ca Q D kk c lb wr kv od s) (o : Nat) : w.frozen? ⟨Q, o, none⟩ = false := by
  obtain ⟨vs, h1, h2, h3⟩ := h.qs
  exact h2.fr o
/-- 'done[p] = 1' -/
theorem MpAt.put {dn : Pt → Bool} {n : Nat} {f : ByteArray → Value} {p : Pt} (hn : n + ndT t dn ≤ (nodesT t).length) (hf : ∀ q, f (txtP q) = .int .i64 (if dn q then 1 else 0)) (hp : (subT t p).isSome = true) (h0 : dn p = false) (ho : OwnK Try.prog w' 9 (.int .i64 0) D (n + 1) (updK f (txtP p) (.int .i64 1))) : MpAt w' D t (setD dn p) := by
  refine ⟨n + 1, _, ho, ?_, fun q => ?_⟩
  · have := ndT_lt (t := t) hp h0 (setD_same dn p) (fun x hx => setD_mono hx)
    omega
  · by_cases e : q = p
    · subst e; rw [updK_same, setD_same]; rfl
    · rw [updK_other _ _ (fun h => e (txtP_inj h)), hf]
      have : setD dn p q = dn q := by unfold setD; simp [e]
      rw [this]
end
end Go.Proofs.Ytbpooepbnnbipaa
