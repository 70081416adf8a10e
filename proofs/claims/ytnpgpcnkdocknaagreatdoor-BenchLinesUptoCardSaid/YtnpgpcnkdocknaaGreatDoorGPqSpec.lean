/- Texts merged: LexSpec, Data, Two, ScSpec, JnSpec, PqSpec. -/
import Derived.Test.YtnpgpcnkdocknaaGreatDoorBase
import Derived.Lib.Strings
import Derived.Lib.ParseIntB
import Derived.Lib.ItoaNum
namespace Go.Proofs.YtnpgpcnkdocknaaGreatDoor
set_option linter.unusedVariables false
structure LTok where
 kind : Int
 pos : Nat
 text : List UInt8
def digB (c : UInt8) : Bool := decide (48 ≤ c.toNat) && decide (c.toNat ≤ 57)
def letB (c : UInt8) : Bool := decide (97 ≤ c.toNat) && decide (c.toNat ≤ 122)
def blkB (c : UInt8) : Bool := decide (c.toNat = 32) || decide (c.toNat = 10) || decide (c.toNat = 9)
def nameB (c : UInt8) : Bool := letB c || digB c
def signsL : List UInt8 := [123, 125, 91, 93, 40, 41, 59, 61, 60, 43, 45, 42, 47, 37]
def sgnB (c : UInt8) : Bool := signsL.contains c
def mostL : List UInt8 := [57, 50, 50, 51, 51, 55, 50, 48, 51, 54, 56, 53, 52, 55, 55, 53, 56, 48, 55]
def numS (t : ByteArray) : Bool := (decide (t.size = 1) || !decide (((t.data.toList.head?).getD 0).toNat = 48)) && (decide (t.size < 19) || (decide (t.size = 19) && (Op.bytesLess t.toList mostL || t.toList == mostL)))
def runL (p : UInt8 → Bool) (l : List UInt8) (at_ : Nat) : Nat := at_ + ((l.drop at_).takeWhile p).length
def tokL : List UInt8 → Option (Int × List UInt8)
 | [] => none
 | c :: r =>
  if digB c then (if numS ⟨((c :: r).takeWhile digB).toArray⟩ then some (1, (c :: r).takeWhile digB) else none)
  else if letB c then some (2, (c :: r).takeWhile nameB)
  else if Lib.hasPrefix (c :: r) [61, 61] then some (3, [61, 61])
  else if sgnB c then some (3, [c]) else none
theorem tokL_cons (c : UInt8) (r : List UInt8) : tokL (c :: r) = if digB c then (if numS ⟨((c :: r).takeWhile digB).toArray⟩ then some (1, (c :: r).takeWhile digB) else none)
    else if letB c then some (2, (c :: r).takeWhile nameB)
    else if Lib.hasPrefix (c :: r) [61, 61] then some (3, [61, 61])
    else if sgnB c then some (3, [c]) else none := rfl
def lexG (l : List UInt8) : Nat → Nat → List LTok → List LTok × Nat × Int
 | 0, _, out => (out, 0, 0)
 | n + 1, a, out =>
  if a < l.length then
   match tokL (l.drop a) with
   | none => ([], a, 1)
   | some (k, t) => lexG l n (runL blkB l (a + t.length)) (out ++ [⟨k, a, t⟩])
  else (out, 0, 0)
def lexR (l : List UInt8) : List LTok × Nat × Int := lexG l (l.length + 1) (runL blkB l 0) []
theorem runL_le {p : UInt8 → Bool} {l : List UInt8} {a : Nat} (h : a ≤ l.length) : runL p l a ≤ l.length := by
 unfold runL
 have := (List.takeWhile_sublist p (l := l.drop a)).length_le
 rw [List.length_drop] at this
 omega
theorem runL_ge {p : UInt8 → Bool} {l : List UInt8} {a : Nat} : a ≤ runL p l a := by unfold runL; omega
theorem runL_step {p : UInt8 → Bool} {l : List UInt8} {a : Nat} (h : a < l.length) (hp : p l[a] = true) : runL p l a = runL p l (a + 1) := by
 unfold runL
 rw [List.drop_eq_getElem_cons h, List.takeWhile_cons, if_pos hp, List.length_cons]
 omega
theorem runL_stop {p : UInt8 → Bool} {l : List UInt8} {a : Nat} (h : a < l.length) (hp : p l[a] = false) : runL p l a = a := by
 unfold runL
 rw [List.drop_eq_getElem_cons h, List.takeWhile_cons, if_neg (by rw [hp]; simp)]
 rfl
theorem runL_end {p : UInt8 → Bool} {l : List UInt8} {a : Nat} (h : l.length ≤ a) : runL p l a = a := by
 unfold runL
 rw [List.drop_eq_nil_of_le h]; rfl
theorem tokL_some {l : List UInt8} {k : Int} {t : List UInt8} (h : tokL l = some (k, t)) : 0 < t.length ∧ t = l.take t.length ∧ t.length ≤ l.length ∧ (k = 1 ∨ k = 2 ∨ k = 3) := by
 cases l with
 | nil => cases h
 | cons c r =>
  have key : ∀ p : UInt8 → Bool, p c = true → 0 < ((c :: r).takeWhile p).length ∧ (c :: r).takeWhile p = (c :: r).take ((c :: r).takeWhile p).length ∧ ((c :: r).takeWhile p).length ≤ (c :: r).length := by
   intro p hp
   refine ⟨by rw [List.takeWhile_cons, if_pos hp]; simp, ?_, (List.takeWhile_sublist p).length_le⟩
   exact (List.prefix_iff_eq_take.1 (List.takeWhile_prefix p))
  rw [tokL_cons] at h
  split at h
  ·rename_i hd
   split at h
   ·cases h; obtain ⟨a, b, c⟩ := key digB hd; exact ⟨a, b, c, .inl rfl⟩
   ·cases h
  ·split at h
   ·rename_i hl
    cases h
    obtain ⟨a, b, c⟩ := key nameB (by unfold nameB; rw [hl]; rfl); exact ⟨a, b, c, .inr (.inl rfl)⟩
   ·split at h
    ·rename_i hp
     cases h
     unfold Lib.hasPrefix at hp
     obtain ⟨u, hu⟩ := List.isPrefixOf_iff_prefix.1 hp
     rw [← hu]
     exact ⟨by simp, by simp, by simp, .inr (.inr rfl)⟩
    ·split at h
     ·cases h; exact ⟨by simp, by simp, by simp, .inr (.inr rfl)⟩
     ·cases h
theorem lexG_step {l : List UInt8} {n a : Nat} {out : List LTok} {k : Int} {t : List UInt8} (ha : a < l.length) (h : tokL (l.drop a) = some (k, t)) : lexG l (n + 1) a out = lexG l n (runL blkB l (a + t.length)) (out ++ [⟨k, a, t⟩]) := by
 conv => lhs; unfold lexG
 rw [if_pos ha, h]
theorem lexG_bad {l : List UInt8} {n a : Nat} {out : List LTok} (ha : a < l.length) (h : tokL (l.drop a) = none) : lexG l (n + 1) a out = ([], a, 1) := by
 conv => lhs; unfold lexG
 rw [if_pos ha, h]
theorem lexG_end {l : List UInt8} {n a : Nat} {out : List LTok} (ha : l.length ≤ a) : lexG l (n + 1) a out = (out, 0, 0) := by
 conv => lhs; unfold lexG
 rw [if_neg (by omega)]
theorem lexG_more (l : List UInt8) : ∀ (n a : Nat) (out : List LTok), (lexG l n a out).2.2 = 0 → ∃ more, (lexG l n a out).1 = out ++ more
 | 0, a, out, _ => ⟨[], by simp [lexG]⟩
 | n + 1, a, out, h => by
  rcases Nat.lt_or_ge a l.length with ha | ha
  ·cases e : tokL (l.drop a) with
   | none => rw [lexG_bad ha e] at h; cases h
   | some kt =>
    obtain ⟨k, t⟩ := kt
    rw [lexG_step ha e] at h ⊢
    obtain ⟨more, hm⟩ := lexG_more l n _ _ h
    exact ⟨⟨k, a, t⟩ :: more, by rw [hm]; simp⟩
  ·rw [lexG_end ha]; exact ⟨[], by simp⟩
def nameL (l : List UInt8) : Bool := match l with
 | [] => false
 | c :: r => letB c && r.all nameB
theorem takeWhile_all {p : UInt8 → Bool} {l : List UInt8} (h : l.takeWhile p = l) : ∀ x ∈ l, p x = true := by
 induction l with
 | nil => intro x hx; cases hx
 | cons c r ih =>
  rw [List.takeWhile_cons] at h
  split at h
  ·rename_i hc
   intro x hx
   rcases List.mem_cons.1 hx with rfl | hx
   ·exact hc
   ·exact ih (List.cons.inj h).2 x hx
  ·cases h
theorem all_takeWhile {p : UInt8 → Bool} {l : List UInt8} (h : ∀ x ∈ l, p x = true) : l.takeWhile p = l := by
 induction l with
 | nil => rfl
 | cons c r ih =>
  rw [List.takeWhile_cons, if_pos (h c (by simp)), ih (fun x hx => h x (by simp [hx]))]
def nameOf (l : List UInt8) (R : List LTok × Nat × Int) : Bool := match R with
 | ([t], _, e) => decide (e = 0) && decide (t.kind = 2) && (t.text == l)
 | _ => false
theorem letB_not {c : UInt8} (h : letB c = true) : digB c = false ∧ blkB c = false := by
 unfold letB at h
 simp only [Bool.and_eq_true, decide_eq_true_eq] at h
 unfold digB blkB
 constructor
 ·rw [decide_eq_false (p := c.toNat ≤ 57) (by omega)]; simp
 ·rw [decide_eq_false (by omega), decide_eq_false (by omega), decide_eq_false (by omega)]; rfl
theorem name_eq (l : List UInt8) : nameOf l (lexR l) = nameL l := by
 rw [Bool.eq_iff_iff]
 constructor
 ·intro h
  unfold lexR at h
  rcases Nat.lt_or_ge (runL blkB l 0) l.length with ha | ha
  ·cases e : tokL (l.drop (runL blkB l 0)) with
   | none => rw [lexG_bad ha e] at h; simp [nameOf] at h
   | some kt =>
    obtain ⟨k, t⟩ := kt
    rw [lexG_step ha e] at h
    generalize hR : lexG l l.length (runL blkB l (runL blkB l 0 + t.length)) ([] ++ [⟨k, runL blkB l 0, t⟩]) = R at h
    have hm := lexG_more l l.length (runL blkB l (runL blkB l 0 + t.length)) ([] ++ [⟨k, runL blkB l 0, t⟩])
    rw [hR] at hm
    unfold nameOf at h
    split at h
    ·rename_i t' p' e'
     simp only [Bool.and_eq_true, decide_eq_true_eq, beq_iff_eq] at h
     obtain ⟨⟨h1, h2⟩, h3⟩ := h
     obtain ⟨more, hm⟩ := hm h1
     simp at hm
     obtain ⟨rfl, _⟩ := hm
     obtain ⟨s1, s2, s3, _⟩ := tokL_some e
     simp only at h2 h3
     subst h3
     rw [List.length_drop] at s3
     have ha0 : runL blkB t 0 = 0 := by omega
     rw [ha0, List.drop_zero] at e
     subst h2
     cases t with
     | nil => cases e
     | cons c r =>
      rw [tokL_cons] at e
      split at e
      ·split at e <;> simp at e
      ·split at e
       ·rename_i hl
        simp at e
        show (letB c && r.all nameB) = true
        rw [hl, Bool.true_and, List.all_eq_true]
        intro x hx
        exact takeWhile_all e x (by simp [hx])
       ·split at e
        ·simp at e
        ·split at e <;> simp at e
    ·cases h
  ·rw [lexG_end ha] at h; simp [nameOf] at h
 ·intro h
  cases l with
  | nil => cases h
  | cons c r =>
   unfold nameL at h
   simp only [Bool.and_eq_true, List.all_eq_true] at h
   obtain ⟨hd, hb⟩ := letB_not h.1
   have h0 : runL blkB (c :: r) 0 = 0 := runL_stop (by simp) (by simpa using hb)
   have ht : (c :: r).takeWhile nameB = c :: r := all_takeWhile fun x hx => by
    rcases List.mem_cons.1 hx with rfl | hx
    ·unfold nameB; rw [h.1]; rfl
    ·exact h.2 x hx
   have htk : tokL ((c :: r).drop 0) = some (2, c :: r) := by
    rw [List.drop_zero]
    rw [tokL_cons, hd, h.1, ht]
    rfl
   unfold lexR
   rw [h0, lexG_step (by simp) htk, runL_end (by simp)]
   have hl : (c :: r).length = r.length + 1 := rfl
   conv => lhs; arg 2; arg 2; rw [hl]
   rw [lexG_end (by simp)]
   simp [nameOf]
def wordsL : List (List UInt8) := [[108, 101, 116], [108, 111, 97, 100], [115, 116, 111, 114, 101], [97, 115, 121, 110, 99], [102, 105, 110, 105, 115, 104], [105, 102], [101, 108, 115, 101], [102, 111, 114], [116, 111]]
def keptB (s : ByteArray) : Bool := wordsL.any fun x => s.toList == x
def knameB (s : ByteArray) : Bool := nameL s.data.toList && !keptB s
end Go.Proofs.YtnpgpcnkdocknaaGreatDoor
namespace Go.Proofs.YtnpgpcnkdocknaaGreatDoor
open Go.RowKit
set_option linter.unusedVariables false

inductive Ex where
 | mk (kind n : Int) (name : ByteArray) (args : List Ex)
inductive St where
 | mk (kind : Int) (name : ByteArray) (a b : Ex) (body els : List St)
inductive Tm where
 | mk (kind cell : Int) (write : Bool) (label : Int) (kids : List Tm)

def Ex.kind : Ex → Int | .mk k _ _ _ => k
def Ex.num : Ex → Int | .mk _ n _ _ => n
def Ex.name : Ex → ByteArray | .mk _ _ s _ => s
def Ex.args : Ex → List Ex | .mk _ _ _ a => a

inductive RdEx (w : World) (S : Blocks) : Ex → List Value → Prop
 | mk (k n : Int) (s : ByteArray) (args : List Ex) (A : Option Addr) (cap : Nat) (css : List (List Value)) (hk : inI k) (hn : inI n) (hs : s.size ≤ 140737488355328)
     (hl : args.length ≤ cap) (hm : cap ≤ maxLen) (hc : args.length * 56 ≤ 140737488355328) (hcl : css.length = args.length) (ha : Arr w S 4 A css) (hr : ∀ (i : Nat) e cs, args[i]? = some e → css[i]? = some cs → RdEx w S e cs) :
     RdEx w S (.mk k n s args) [.int .i64 k, .int .i64 n, .string s, .slice A args.length cap]
abbrev RdExs := RdL RdEx 4 56
theorem RdEx.keeps : Keeps RdEx := by
 intro w w' S S' x cs hB hk h
 induction h with
 | mk k n s args A cap css hkk hn hs hl hm hc hcl ha hr ih => exact .mk k n s args A cap css hkk hn hs hl hm hc hcl (ha.keep hB hk) ih
theorem RdEx.len {w : World} {S : Blocks} {e : Ex} {cs : List Value} (h : RdEx w S e cs) : cs.length = 4 := by cases h; rfl
theorem RdEx.open_ {w : World} {S : Blocks} {k n : Int} {s : ByteArray} {args : List Ex} {cs : List Value} (h : RdEx w S (.mk k n s args) cs) :
    inI k ∧ inI n ∧ s.size ≤ 140737488355328 ∧ ∃ v, cs = [.int .i64 k, .int .i64 n, .string s, v] ∧ RdExs w S args v := by
 cases h with
 | mk _ _ _ _ A cap css hkk hn hs hl hm hc hcl ha hr => exact ⟨hkk, hn, hs, _, rfl, A, cap, css, rfl, hl, hm, hc, hcl, ha, hr⟩
theorem RdEx.shut {w : World} {S : Blocks} {k n : Int} {s : ByteArray} {args : List Ex} {v : Value} (hk : inI k) (hn : inI n) (hs : s.size ≤ 140737488355328) (h : RdExs w S args v) :
    RdEx w S (.mk k n s args) [.int .i64 k, .int .i64 n, .string s, v] := by
 obtain ⟨A, cap, css, rfl, hl, hm, hc, hcl, ha, hr⟩ := h
 exact .mk k n s args A cap css hk hn hs hl hm hc hcl ha hr

theorem RdEx.cells {w : World} {S : Blocks} {e : Ex} {cs : List Value} (h : RdEx w S e cs) : ∃ k n s A c c', cs = [.int .i64 k, .int .i64 n, .string s, .slice A c c'] := by
 cases h with
 | mk k n s args A cap css _ _ _ _ _ _ _ _ _ => exact ⟨k, n, s, A, _, cap, rfl⟩

inductive RdSt (w : World) (S : Blocks) : St → List Value → Prop
 | mk (k : Int) (s : ByteArray) (a b : Ex) (body els : List St) (a0 a1 a2 a3 b0 b1 b2 b3 : Value) (A A' : Option Addr) (cap cap' : Nat) (css css' : List (List Value)) (hk : inI k) (hs : s.size ≤ 140737488355328)
     (h1 : RdEx w S a [a0, a1, a2, a3]) (h2 : RdEx w S b [b0, b1, b2, b3])
     (hl : body.length ≤ cap) (hm : cap ≤ maxLen) (hc : body.length * 184 ≤ 140737488355328) (hcl : css.length = body.length) (ha : Arr w S 12 A css) (hr : ∀ (i : Nat) e cs, body[i]? = some e → css[i]? = some cs → RdSt w S e cs)
     (hl' : els.length ≤ cap') (hm' : cap' ≤ maxLen) (hc' : els.length * 184 ≤ 140737488355328) (hcl' : css'.length = els.length) (ha' : Arr w S 12 A' css') (hr' : ∀ (i : Nat) e cs, els[i]? = some e → css'[i]? = some cs → RdSt w S e cs) :
     RdSt w S (.mk k s a b body els) [.int .i64 k, .string s, a0, a1, a2, a3, b0, b1, b2, b3, .slice A body.length cap, .slice A' els.length cap']
abbrev RdSts := RdL RdSt 12 184
theorem RdSt.keeps : Keeps RdSt := by
 intro w w' S S' x cs hB hk h
 induction h with
 | mk k s a b body els a0 a1 a2 a3 b0 b1 b2 b3 A A' cap cap' css css' hkk hs h1 h2 hl hm hc hcl ha hr hl' hm' hc' hcl' ha' hr' ih ih' =>
  exact .mk k s a b body els a0 a1 a2 a3 b0 b1 b2 b3 A A' cap cap' css css' hkk hs (RdEx.keeps _ _ _ _ _ _ hB hk h1) (RdEx.keeps _ _ _ _ _ _ hB hk h2) hl hm hc hcl (ha.keep hB hk) ih hl' hm' hc' hcl' (ha'.keep hB hk) ih'
theorem RdSt.open_ {w : World} {S : Blocks} {k : Int} {s : ByteArray} {a b : Ex} {body els : List St} {cs : List Value} (h : RdSt w S (.mk k s a b body els) cs) :
    inI k ∧ s.size ≤ 140737488355328 ∧ ∃ a0 a1 a2 a3 b0 b1 b2 b3 v v', cs = [.int .i64 k, .string s, a0, a1, a2, a3, b0, b1, b2, b3, v, v'] ∧ RdEx w S a [a0, a1, a2, a3] ∧ RdEx w S b [b0, b1, b2, b3] ∧ RdSts w S body v ∧ RdSts w S els v' := by
 cases h with
 | mk _ _ _ _ _ _ a0 a1 a2 a3 b0 b1 b2 b3 A A' cap cap' css css' hkk hs h1 h2 hl hm hc hcl ha hr hl' hm' hc' hcl' ha' hr' =>
  exact ⟨hkk, hs, a0, a1, a2, a3, b0, b1, b2, b3, _, _, rfl, h1, h2, ⟨A, cap, css, rfl, hl, hm, hc, hcl, ha, hr⟩, ⟨A', cap', css', rfl, hl', hm', hc', hcl', ha', hr'⟩⟩
theorem RdSt.cells {w : World} {S : Blocks} {k : Int} {s : ByteArray} {a b : Ex} {body els : List St} {cs : List Value} (h : RdSt w S (.mk k s a b body els) cs) :
    ∃ k1 n1 s1 A1 c1 m1 k2 n2 s2 A2 c2 m2 A3 m3 A4 m4, cs = [.int .i64 k, .string s, .int .i64 k1, .int .i64 n1, .string s1, .slice A1 c1 m1, .int .i64 k2, .int .i64 n2, .string s2, .slice A2 c2 m2, .slice A3 body.length m3, .slice A4 els.length m4] ∧
     inI k ∧ s.size ≤ 140737488355328 ∧ RdEx w S a [.int .i64 k1, .int .i64 n1, .string s1, .slice A1 c1 m1] ∧ RdEx w S b [.int .i64 k2, .int .i64 n2, .string s2, .slice A2 c2 m2] ∧
     RdSts w S body (.slice A3 body.length m3) ∧ RdSts w S els (.slice A4 els.length m4) := by
 obtain ⟨hk, hs, a0, a1, a2, a3, b0, b1, b2, b3, v, v', rfl, h1, h2, h3, h4⟩ := h.open_
 obtain ⟨k1, n1, s1, A1, c1, m1, e1⟩ := h1.cells
 obtain ⟨k2, n2, s2, A2, c2, m2, e2⟩ := h2.cells
 obtain ⟨A3, m3, rfl, _, _⟩ := h3.form
 obtain ⟨A4, m4, rfl, _, _⟩ := h4.form
 simp only [List.cons.injEq, and_true] at e1 e2
 obtain ⟨rfl, rfl, rfl, rfl⟩ := e1
 obtain ⟨rfl, rfl, rfl, rfl⟩ := e2
 exact ⟨k1, n1, s1, A1, c1, m1, k2, n2, s2, A2, c2, m2, A3, m3, A4, m4, rfl, hk, hs, h1, h2, h3, h4⟩
theorem RdSt.shut {w : World} {S : Blocks} {k : Int} {s : ByteArray} {a b : Ex} {body els : List St} {a0 a1 a2 a3 b0 b1 b2 b3 v v' : Value} (hk : inI k) (hs : s.size ≤ 140737488355328)
    (h1 : RdEx w S a [a0, a1, a2, a3]) (h2 : RdEx w S b [b0, b1, b2, b3]) (h3 : RdSts w S body v) (h4 : RdSts w S els v') :
    RdSt w S (.mk k s a b body els) [.int .i64 k, .string s, a0, a1, a2, a3, b0, b1, b2, b3, v, v'] := by
 obtain ⟨A, cap, css, rfl, hl, hm, hc, hcl, ha, hr⟩ := h3
 obtain ⟨A', cap', css', rfl, hl', hm', hc', hcl', ha', hr'⟩ := h4
 exact .mk k s a b body els a0 a1 a2 a3 b0 b1 b2 b3 A A' cap cap' css css' hk hs h1 h2 hl hm hc hcl ha hr hl' hm' hc' hcl' ha' hr'

inductive RdTm (w : World) (S : Blocks) : Tm → List Value → Prop
 | mk (k c : Int) (wr : Bool) (lb : Int) (kids : List Tm) (A : Option Addr) (cap : Nat) (css : List (List Value)) (hk : inI k) (hn : inI c) (hs : inI lb)
     (hl : kids.length ≤ cap) (hm : cap ≤ maxLen) (hc : kids.length * 56 ≤ 140737488355328) (hcl : css.length = kids.length) (ha : Arr w S 5 A css) (hr : ∀ (i : Nat) e cs, kids[i]? = some e → css[i]? = some cs → RdTm w S e cs) :
     RdTm w S (.mk k c wr lb kids) [.int .i64 k, .int .i64 c, .bool wr, .int .i64 lb, .slice A kids.length cap]
abbrev RdTms := RdL RdTm 5 56
theorem RdTm.keeps : Keeps RdTm := by
 intro w w' S S' x cs hB hk h
 induction h with
 | mk k n s lb args A cap css hkk hn hs hl hm hc hcl ha hr ih => exact .mk k n s lb args A cap css hkk hn hs hl hm hc hcl (ha.keep hB hk) ih
theorem RdTm.open_ {w : World} {S : Blocks} {k c : Int} {wr : Bool} {lb : Int} {kids : List Tm} {cs : List Value} (h : RdTm w S (.mk k c wr lb kids) cs) :
    inI k ∧ inI c ∧ inI lb ∧ ∃ v, cs = [.int .i64 k, .int .i64 c, .bool wr, .int .i64 lb, v] ∧ RdTms w S kids v := by
 cases h with
 | mk _ _ _ _ _ A cap css hkk hn hs hl hm hc hcl ha hr => exact ⟨hkk, hn, hs, _, rfl, A, cap, css, rfl, hl, hm, hc, hcl, ha, hr⟩
theorem RdTm.shut {w : World} {S : Blocks} {k c : Int} {wr : Bool} {lb : Int} {kids : List Tm} {v : Value} (hk : inI k) (hn : inI c) (hs : inI lb) (h : RdTms w S kids v) :
    RdTm w S (.mk k c wr lb kids) [.int .i64 k, .int .i64 c, .bool wr, .int .i64 lb, v] := by
 obtain ⟨A, cap, css, rfl, hl, hm, hc, hcl, ha, hr⟩ := h
 exact .mk k c wr lb kids A cap css hk hn hs hl hm hc hcl ha hr

end Go.Proofs.YtnpgpcnkdocknaaGreatDoor
namespace Go.Proofs.YtnpgpcnkdocknaaGreatDoor
set_option linter.unusedVariables false
def Ex.two : Ex → Option (Ex × Ex)
 | .mk k _ _ (a :: b :: _) => if 3 ≤ k ∧ k ≤ 9 then some (a, b) else none
 | _ => none
theorem Ex.two_size {t a b : Ex} (h : t.two = some (a, b)) : SizeOf.sizeOf a < SizeOf.sizeOf t ∧ SizeOf.sizeOf b < SizeOf.sizeOf t := by
 match t, h with
 | .mk k c w (x :: y :: r), h =>
  simp only [Ex.two] at h
  split at h
  ·simp only [Option.some.injEq, Prod.mk.injEq] at h
   obtain ⟨rfl, rfl⟩ := h
   simp only [Ex.mk.sizeOf_spec, List.cons.sizeOf_spec]
   omega
  ·cases h
theorem Ex.two_kind {t a b : Ex} (h : t.two = some (a, b)) : (3 ≤ t.kind ∧ t.kind ≤ 9) ∧ ∃ r, t.args = a :: b :: r := by
 match t, h with
 | .mk k c w (x :: y :: r), h =>
  simp only [Ex.two] at h
  split at h
  ·simp only [Option.some.injEq, Prod.mk.injEq] at h
   obtain ⟨rfl, rfl⟩ := h
   exact ⟨by assumption, r, rfl⟩
  ·cases h
theorem Ex.two_none {t : Ex} (h : t.two = none) : (t.kind < 3 ∨ 9 < t.kind) ∨ t.args.length < 2 := by
 match t, h with
 | .mk k c w [], h => exact .inr (by simp [Ex.args])
 | .mk k c w [x], h => exact .inr (by simp [Ex.args])
 | .mk k c w (x :: y :: r), h =>
  simp only [Ex.two] at h
  split at h
  ·cases h
  ·left; simp only [Ex.kind]; omega
theorem Ex.ind {motive : Ex → Prop} (one : ∀ t, t.two = none → motive t) (two : ∀ t a b, t.two = some (a, b) → motive a → motive b → motive t) (t : Ex) : motive t := by
 match h : t.two with
 | none => exact one t h
 | some (a, b) =>
  have hs := Ex.two_size h
  exact two t a b h (Ex.ind one two a) (Ex.ind one two b)
termination_by SizeOf.sizeOf t
abbrev Str := ByteArray
instance decStr (s : Str) (l : List Str) : Decidable (s ∈ l) := decidable_of_iff (∃ x, x ∈ l ∧ x = s) (by simp)
def merge (a b : List Str) : List Str := b.foldl (fun out s => if s ∈ out then out else out ++ [s]) a
def Ex.names (t : Ex) : List Str :=
 match h : t.two with
 | some (a, b) => merge a.names b.names
 | none => if t.kind = 2 then [t.name] else []
termination_by SizeOf.sizeOf t
decreasing_by all_goals (have hs := Ex.two_size h; omega)
def St.kind : St → Int | .mk k _ _ _ _ _ => k
def St.name : St → Str | .mk _ s _ _ _ _ => s
def numJ (l : List UInt8) : Bool := match Lib.parseIntB 64 l with
 | .ok v => Lib.itoa v == l
 | _ => false
def stD (a : Nat) (c : UInt8) : Nat := a * 10 + (c.toNat - 48)
def vA (a : Nat) (l : List UInt8) : Nat := l.foldl stD a
theorem vA_nil (a : Nat) : vA a [] = a := List.foldl_nil
theorem vA_cons (a : Nat) (c : UInt8) (r : List UInt8) : vA a (c :: r) = vA (a * 10 + (c.toNat - 48)) r := by
 unfold vA
 rw [List.foldl_cons]
 unfold stD
 exact Eq.refl _
theorem vA_ge (l : List UInt8) : ∀ a : Nat, a ≤ vA a l := by
 induction l with
 | nil => intro a; rw [vA_nil]; exact Nat.le_refl _
 | cons c r ih =>
  intro a
  rw [vA_cons]
  exact Nat.le_trans (by omega) (ih _)
theorem vA_eq : ∀ (l : List UInt8) (a : Nat), vA a l = a * 10 ^ l.length + vA 0 l
 | [], a => by simp [vA_nil]
 | c :: r, a => by
  rw [vA_cons, vA_cons, vA_eq r (a * 10 + _), vA_eq r (0 * 10 + _), List.length_cons, Nat.pow_succ, Nat.zero_mul, Nat.zero_add, Nat.add_mul, Nat.mul_assoc, Nat.mul_comm 10, Nat.add_assoc]
theorem vA_snoc (l : List UInt8) (c : UInt8) : ∀ a, vA a (l ++ [c]) = vA a l * 10 + (c.toNat - 48) := by
 induction l with
 | nil => intro a; rw [List.nil_append, vA_cons, vA_nil, vA_nil]
 | cons d r ih => intro a; rw [List.cons_append, vA_cons, vA_cons, ih]
theorem vA_lt : ∀ (l : List UInt8), (∀ c ∈ l, digB c = true) → vA 0 l < 10 ^ l.length
 | [], _ => by simp [vA_nil]
 | c :: r, h => by
  have h1 := vA_lt r (fun x hx => h x (List.mem_cons_of_mem _ hx))
  have h2 := h c (List.mem_cons_self ..)
  simp only [digB, Bool.and_eq_true, decide_eq_true_eq] at h2
  rw [vA_cons, vA_eq, List.length_cons, Nat.pow_succ]
  have h3 : (0 * 10 + (c.toNat - 48)) * 10 ^ r.length ≤ 9 * 10 ^ r.length := Nat.mul_le_mul_right _ (by omega)
  omega
theorem vA_pos {c : UInt8} {r : List UInt8} (hc : digB c = true) (h : c.toNat ≠ 48) : 10 ^ r.length ≤ vA 0 (c :: r) := by
 simp only [digB, Bool.and_eq_true, decide_eq_true_eq] at hc
 rw [vA_cons, vA_eq]
 have : 1 * 10 ^ r.length ≤ (0 * 10 + (c.toNat - 48)) * 10 ^ r.length := Nat.mul_le_mul_right _ (by omega)
 omega
theorem parse_dig : ∀ (l : List UInt8) (a : Nat), (∀ c ∈ l, digB c = true) → a ≤ 18446744073709551615 → Lib.parseUintM 18446744073709551615 a l = if vA a l ≤ 18446744073709551615 then .ok (vA a l) else .range
 | [], a, _, ha => by rw [Lib.parseUintM, vA_nil, if_pos ha]
 | c :: r, a, h, ha => by
  have h2 := h c (List.mem_cons_self ..)
  simp only [digB, Bool.and_eq_true, decide_eq_true_eq] at h2
  have hg := vA_ge r (a * 10 + (c.toNat - 48))
  rw [Lib.parseUintM, if_pos h2, vA_cons]
  by_cases h3 : 1844674407370955162 ≤ a
  ·rw [if_pos h3, if_neg (by omega)]
  ·rw [if_neg h3]
   by_cases h4 : 18446744073709551615 < a * 10 + (c.toNat - 48)
   ·rw [if_pos h4, if_neg (by omega)]
   ·rw [if_neg h4]
    exact parse_dig r _ (fun x hx => h x (List.mem_cons_of_mem _ hx)) (by omega)
theorem parseInt_dig (l : List UInt8) (h0 : l ≠ []) (h : ∀ c ∈ l, digB c = true) : Lib.parseIntB 64 l = if vA 0 l < 9223372036854775808 then .ok (vA 0 l : Int) else .range := by
 cases l with
 | nil => exact absurd rfl h0
 | cons c r =>
  have h2 := h c (List.mem_cons_self ..)
  simp only [digB, Bool.and_eq_true, decide_eq_true_eq] at h2
  have h3 := parse_dig (c :: r) 0 h (by omega)
  unfold Lib.parseIntB
  simp only []
  rw [if_neg (show ¬ (c.toNat = 43 ∨ c.toNat = 45) by omega)]
  unfold Lib.parseUintB
  rw [if_neg (by simp), show (2 ^ 64 - 1 : Nat) = 18446744073709551615 from rfl, h3]
  generalize vA 0 (c :: r) = u
  have hn : ¬ c.toNat = 45 := by omega
  by_cases h4 : u < 9223372036854775808
  ·rw [if_pos (by omega), if_pos h4]
   simp only [hn, not_false_eq_true, true_and, false_and, if_false]
   rw [if_neg (by omega)]
  ·rw [if_neg h4]
   by_cases h5 : u ≤ 18446744073709551615
   ·rw [if_pos h5]
    simp only [hn, not_false_eq_true, true_and]
    rw [if_pos (by omega)]
   ·rw [if_neg h5]
theorem nDig_le : ∀ (k u : Nat), 1 ≤ k → u < 10 ^ k → Lib.nDigits u ≤ k
 | 0, _, h, _ => by omega
 | 1, u, _, h => by rw [Lib.nDigits_small (by simpa using h)]; exact Nat.le_refl _
 | k + 2, u, _, h => by
  by_cases h1 : u < 10
  ·rw [Lib.nDigits_small h1]; omega
  ·rw [Lib.nDigits_big h1]
   have := nDig_le (k + 1) (u / 10) (by omega) (by rw [Nat.pow_succ] at h; omega)
   omega
theorem dig_back (c : UInt8) (h : digB c = true) : UInt8.ofNat (48 + (c.toNat - 48)) = c := by
 simp only [digB, Bool.and_eq_true, decide_eq_true_eq] at h
 rw [show 48 + (c.toNat - 48) = c.toNat by omega]
 exact UInt8.ofNat_toNat
theorem dec_digits (n : Nat) : ∀ (l : List UInt8), l.length = n → l ≠ [] → (∀ c ∈ l, digB c = true) → (l.length = 1 ∨ ((l.head?).getD 0).toNat ≠ 48) → Lib.decDigits (vA 0 l) = l := by
 induction n with
 | zero => intro l hl h0; exact absurd (List.eq_nil_of_length_eq_zero hl) h0
 | succ n ih =>
  intro l hl h0 h hz
  obtain ⟨m, c, rfl⟩ : ∃ m c, l = m ++ [c] := ⟨l.dropLast, l.getLast h0, (List.dropLast_concat_getLast h0).symm⟩
  have hc := h c (by simp)
  have hm : ∀ x ∈ m, digB x = true := fun x hx => h x (by simp [hx])
  have hcd := hc
  simp only [digB, Bool.and_eq_true, decide_eq_true_eq] at hcd
  rw [vA_snoc]
  cases m with
  | nil =>
   rw [vA_nil, Lib.decDigits, dif_pos (by omega), Nat.zero_mul, Nat.zero_add, dig_back c hc]
   rfl
  | cons d r =>
   have hd := hm d (List.mem_cons_self ..)
   have hz2 : d.toNat ≠ 48 := by
    rcases hz with hz | hz
    ·simp at hz
    ·simpa using hz
   have hp := vA_pos (r := r) hd hz2
   have h1 : 1 ≤ 10 ^ r.length := Nat.one_le_pow _ _ (by decide)
   rw [Lib.decDigits, dif_neg (by omega), show (vA 0 (d :: r) * 10 + (c.toNat - 48)) / 10 = vA 0 (d :: r) by omega, show (vA 0 (d :: r) * 10 + (c.toNat - 48)) % 10 = c.toNat - 48 by omega, dig_back c hc,
    ih (d :: r) (by simpa using hl) (by simp) hm (.inr (by simpa using hz2))]
theorem less_num : ∀ (l m : List UInt8), l.length = m.length → (∀ c ∈ l, digB c = true) → (∀ c ∈ m, digB c = true) → (Op.bytesLess l m = true ↔ vA 0 l < vA 0 m) ∧ (l = m ↔ vA 0 l = vA 0 m)
 | [], [], _, _, _ => ⟨by simp [Op.bytesLess], by simp⟩
 | [], _ :: _, h, _, _ => by simp at h
 | _ :: _, [], h, _, _ => by simp at h
 | c :: l, d :: m, h, h1, h2 => by
  have hlen : l.length = m.length := by simpa using h
  obtain ⟨i1, i2⟩ := less_num l m hlen (fun x hx => h1 x (List.mem_cons_of_mem _ hx)) (fun x hx => h2 x (List.mem_cons_of_mem _ hx))
  have hc := h1 c (List.mem_cons_self ..)
  have hd := h2 d (List.mem_cons_self ..)
  simp only [digB, Bool.and_eq_true, decide_eq_true_eq] at hc hd
  have b1 := vA_lt l (fun x hx => h1 x (List.mem_cons_of_mem _ hx))
  have b2 := vA_lt m (fun x hx => h2 x (List.mem_cons_of_mem _ hx))
  rw [vA_cons, vA_cons, vA_eq l, vA_eq m, ← hlen, Nat.zero_mul, Nat.zero_add, Nat.zero_add]
  rw [← hlen] at b2
  obtain ⟨x, hx⟩ : ∃ x, x = c.toNat - 48 := ⟨_, rfl⟩
  obtain ⟨y, hy⟩ : ∃ y, y = d.toNat - 48 := ⟨_, rfl⟩
  rw [← hx, ← hy]
  generalize 10 ^ l.length = T at b1 b2 ⊢
  have key : ∀ p q : Nat, p < q → p * T + T ≤ q * T := fun p q hpq => by
   have := Nat.mul_le_mul_right T (show p + 1 ≤ q by omega)
   rw [Nat.add_mul, Nat.one_mul] at this
   exact this
  have e1 : (c < d) ↔ x < y := by rw [UInt8.lt_iff_toNat_lt]; omega
  have e2 : (c = d) ↔ x = y := by rw [← UInt8.toNat_inj]; omega
  have hb : (Op.bytesLess (c :: l) (d :: m) = true) ↔ (x < y ∨ (x = y ∧ vA 0 l < vA 0 m)) := by
   rw [Op.bytesLess, Bool.or_eq_true, Bool.and_eq_true, beq_iff_eq, decide_eq_true_eq, e1, e2, i1]
  have he : (c :: l = d :: m) ↔ (x = y ∧ vA 0 l = vA 0 m) := by rw [List.cons.injEq, e2, i2]
  rw [hb, he]
  rcases Nat.lt_trichotomy x y with hxy | hxy | hxy
  ·have := key x y hxy
   constructor <;> constructor <;> intro h <;> first | omega | (exact absurd h (by omega))
  ·subst hxy
   constructor <;> constructor <;> intro h <;> omega
  ·have := key y x hxy
   constructor <;> constructor <;> intro h <;> omega
theorem most_val : vA 0 mostL = 9223372036854775807 := by decide +kernel
theorem numJ_eq (l : List UInt8) (h0 : l ≠ []) (h : ∀ c ∈ l, digB c = true) : numJ l = numS ⟨l.toArray⟩ := by
 have hsz : (⟨l.toArray⟩ : ByteArray).size = l.length := by simp [ByteArray.size]
 have htl : (⟨l.toArray⟩ : ByteArray).toList = l := by rw [ByteArray.toList_eq]
 have hpos : 0 < l.length := List.length_pos_iff.2 h0
 unfold numJ numS
 rw [parseInt_dig l h0 h, hsz, htl]
 simp only
 by_cases hz : l.length = 1 ∨ ((l.head?).getD 0).toNat ≠ 48
 ·have hb : (decide (l.length = 1) || !decide (((l.head?).getD 0).toNat = 48)) = true := by
    rcases hz with hz | hz
    ·rw [decide_eq_true hz]; rfl
    ·rw [decide_eq_false hz]; simp
  rw [hb, Bool.true_and]
  have hd := dec_digits _ l rfl h0 h hz
  have hlt := vA_lt l h
  by_cases hv : vA 0 l < 9223372036854775808
  ·rw [if_pos hv]
   simp only [Lib.itoa]
   rw [if_neg (by omega), Int.toNat_natCast, hd]
   symm
   simp only [beq_self_eq_true, Bool.or_eq_true, Bool.and_eq_true, decide_eq_true_eq, beq_iff_eq]
   by_cases h19 : l.length < 19
   ·exact .inl h19
   ·by_cases he : l.length = 19
    ·obtain ⟨i1, i2⟩ := less_num l mostL (by rw [he]; rfl) h (by decide +kernel)
     rw [most_val] at i1 i2
     refine .inr ⟨he, ?_⟩
     rw [i1, i2]; omega
    ·exfalso
     cases l with
     | nil => exact h0 rfl
     | cons c r =>
      have hr : 19 ≤ r.length := by simp at h19 he; omega
      have hc : c.toNat ≠ 48 := by
       rcases hz with hz | hz
       ·simp at hz; subst hz; simp at hr
       ·simpa using hz
      have := vA_pos (r := r) (h c (List.mem_cons_self ..)) hc
      have h10 : 10 ^ 19 ≤ 10 ^ r.length := Nat.pow_le_pow_right (by decide) hr
      omega
  ·rw [if_neg hv]
   symm
   simp only [Bool.or_eq_false_iff, Bool.and_eq_false_iff, decide_eq_false_iff_not, beq_eq_false_iff_ne]
   have h18 : ¬ l.length < 19 := fun hl => by
    have h10 : 10 ^ l.length ≤ 10 ^ 18 := Nat.pow_le_pow_right (by decide) (by omega)
    omega
   refine ⟨h18, ?_⟩
   by_cases he : l.length = 19
   ·obtain ⟨i1, i2⟩ := less_num l mostL (by rw [he]; rfl) h (by decide +kernel)
    rw [most_val] at i1 i2
    refine .inr ⟨?_, ?_⟩
    ·rw [← Bool.not_eq_true, i1]; omega
    ·rw [Ne, i2]; omega
   ·exact .inl he
 ·have hb : (decide (l.length = 1) || !decide (((l.head?).getD 0).toNat = 48)) = false := by
    have h1 : ¬ l.length = 1 := fun e => hz (.inl e)
    have h2 : ((l.head?).getD 0).toNat = 48 := Classical.byContradiction fun e => hz (.inr e)
    rw [decide_eq_false h1, decide_eq_true h2]; rfl
  rw [hb, Bool.false_and]
  by_cases hv : vA 0 l < 9223372036854775808
  ·rw [if_pos hv]
   simp only [Lib.itoa]
   rw [if_neg (by omega), Int.toNat_natCast, beq_eq_false_iff_ne]
   intro e
   have hlen : (Lib.decDigits (vA 0 l)).length = l.length := by rw [e]
   rw [Lib.decDigits_length] at hlen
   cases l with
   | nil => exact h0 rfl
   | cons c r =>
    have h2 : c.toNat = 48 := Classical.byContradiction fun e => hz (.inr (by simpa using e))
    have hr : r ≠ [] := fun e => hz (.inl (by rw [e]; rfl))
    have hv2 : vA 0 (c :: r) = vA 0 r := by rw [vA_cons, h2]
    rw [hv2] at hlen
    have := nDig_le r.length (vA 0 r) (List.length_pos_iff.2 hr) (vA_lt r (fun x hx => h x (List.mem_cons_of_mem _ hx)))
    simp at hlen
    omega
  ·rw [if_neg hv]
abbrev LTok.str (t : LTok) : Str := ⟨t.text.toArray⟩
abbrev bz (l : List UInt8) : Str := ⟨l.toArray⟩
inductive PR (α : Type) where
 | ok (x : α) (r : List LTok)
 | no (r : List LTok)
abbrev PO (α : Type) := Option (PR α)
def PO.bind {α β : Type} (m : PO α) (f : α → List LTok → PO β) : PO β :=
 match m with
 | none => none
 | some (.no r) => some (.no r)
 | some (.ok a r) => f a r
theorem PO.bind_ok {α β : Type} {a : α} {r : List LTok} {f : α → List LTok → PO β} : PO.bind (some (.ok a r)) f = f a r := rfl
theorem PO.bind_some {α β : Type} {m : PO α} {f : α → List LTok → PO β} {o : PR β} (h : PO.bind m f = some o) : (∃ r, m = some (.no r) ∧ o = .no r) ∨ (∃ a r, m = some (.ok a r) ∧ f a r = some o) := by
 match m, h with
 | some (.no r), h => exact .inl ⟨r, rfl, (Option.some.inj h).symm⟩
 | some (.ok a r), h => exact .inr ⟨a, r, rfl, h⟩
def isT (s : Str) : List LTok → Bool
 | [] => false
 | t :: _ => t.str.toList == s.toList
def anyG : List Str → List LTok → Str
 | [], _ => ⟨#[]⟩
 | s :: l, ts => if isT s ts then s else anyG l ts
def wantG : List Str → List LTok → PR Unit
 | [], ts => .ok () ts
 | s :: l, ts => if isT s ts then wantG l ts.tail else .no ts
def nameG : List LTok → PR Str
 | [] => .no []
 | t :: r => if t.kind = 2 ∧ keptB t.str = false then .ok t.str r else .no (t :: r)
def lvlS : Nat → List Str
 | 0 => [bz [60], bz [61, 61]]
 | 1 => [bz [43], bz [45]]
 | _ => [bz [42], bz [47], bz [37]]
def signK (s : Str) : Int :=
 if s.toList == [43] then 3 else if s.toList == [45] then 4 else if s.toList == [42] then 5 else if s.toList == [47] then 6 else if s.toList == [37] then 7 else if s.toList == [60] then 8 else 9
def twoX (s : Str) (a b : Ex) : Ex := .mk (signK s) 0 ⟨#[]⟩ [a, b]
def numX (t : LTok) : Ex := .mk 1 (vA 0 t.text : Nat) ⟨#[]⟩ []
inductive Mo where
 | ex (lvl : Nat)
 | row (lvl : Nat) (a : Ex)
def atomG (ex0 : List LTok → PO Ex) (ts : List LTok) : PO Ex :=
 if isT (bz [40]) ts then PO.bind (ex0 ts.tail) fun a r => PO.bind (some (wantG [bz [41]] r)) fun _ r => some (.ok a r)
 else match ts with
  | [] => some (.no [])
  | t :: r => if t.kind = 1 then some (.ok (numX t) r) else PO.bind (some (nameG (t :: r))) fun s r => some (.ok (.mk 2 0 s []) r)
def rowG (nx : List LTok → PO Ex) (rw_ : Ex → List LTok → PO Ex) (lvl : Nat) (a : Ex) (ts : List LTok) : PO Ex :=
 if anyG (lvlS lvl) ts = ⟨#[]⟩ then some (.ok a ts)
 else PO.bind (nx ts.tail) fun b r => if lvl = 0 then some (.ok (twoX (anyG (lvlS lvl) ts) a b) r) else rw_ (twoX (anyG (lvlS lvl) ts) a b) r
def exG : Nat → Mo → List LTok → PO Ex
 | 0, _, _ => none
 | n + 1, .ex lvl, ts =>
  if lvl < 3 then PO.bind (exG n (.ex (lvl + 1)) ts) fun a r => exG n (.row lvl a) r
  else atomG (exG n (.ex 0)) ts
 | n + 1, .row lvl a, ts => rowG (exG n (.ex (lvl + 1))) (fun a r => exG n (.row lvl a) r) lvl a ts
theorem exG_ex {n lvl : Nat} {ts : List LTok} (h : lvl < 3) : exG (n + 1) (.ex lvl) ts = PO.bind (exG n (.ex (lvl + 1)) ts) fun a r => exG n (.row lvl a) r := by rw [exG, if_pos h]
theorem exG_atom {n : Nat} {ts : List LTok} : exG (n + 1) (.ex 3) ts = atomG (exG n (.ex 0)) ts := by rw [exG, if_neg (by decide)]
theorem exG_open {n : Nat} {ts : List LTok} (h : isT (bz [40]) ts = true) : exG (n + 1) (.ex 3) ts = PO.bind (exG n (.ex 0) ts.tail) fun a r => PO.bind (some (wantG [bz [41]] r)) fun _ r => some (.ok a r) := by
 rw [exG_atom]; unfold atomG; rw [if_pos h]
theorem exG_nil {n : Nat} : exG (n + 1) (.ex 3) [] = some (.no []) := by rw [exG_atom]; rfl
theorem exG_num {n : Nat} {t : LTok} {r : List LTok} (h : isT (bz [40]) (t :: r) = false) (h1 : t.kind = 1) : exG (n + 1) (.ex 3) (t :: r) = some (.ok (numX t) r) := by
 rw [exG_atom]; unfold atomG; rw [h]; simp [h1]
theorem exG_name {n : Nat} {t : LTok} {r : List LTok} (h : isT (bz [40]) (t :: r) = false) (h1 : ¬ t.kind = 1) : exG (n + 1) (.ex 3) (t :: r) = PO.bind (some (nameG (t :: r))) fun s r => some (.ok (.mk 2 0 s []) r) := by
 rw [exG_atom]; unfold atomG; rw [h]; simp [h1]
theorem exG_stop {n lvl : Nat} {a : Ex} {ts : List LTok} (h : anyG (lvlS lvl) ts = ⟨#[]⟩) : exG (n + 1) (.row lvl a) ts = some (.ok a ts) := by rw [exG]; unfold rowG; rw [if_pos h]
theorem exG_row {n lvl : Nat} {a : Ex} {ts : List LTok} (h : ¬ anyG (lvlS lvl) ts = ⟨#[]⟩) : exG (n + 1) (.row lvl a) ts = PO.bind (exG n (.ex (lvl + 1)) ts.tail) fun b r => if lvl = 0 then some (.ok (twoX (anyG (lvlS lvl) ts) a b) r) else exG n (.row lvl (twoX (anyG (lvlS lvl) ts) a b)) r := by rw [exG]; unfold rowG; rw [if_neg h]
def begS : List Str := [bz [108, 101, 116], bz [108, 111, 97, 100], bz [115, 116, 111, 114, 101], bz [97, 115, 121, 110, 99], bz [102, 105, 110, 105, 115, 104], bz [105, 102], bz [102, 111, 114]]
def noX : Ex := .mk 0 0 ⟨#[]⟩ []
def noSt : St := .mk 0 ⟨#[]⟩ noX noX [] []
def blockG (sts : List LTok → PO (List St)) (ts : List LTok) : PO (List St) :=
 PO.bind (some (wantG [bz [123]] ts)) fun _ r => PO.bind (sts r) fun l r => PO.bind (some (wantG [bz [125]] r)) fun _ r => some (.ok l r)
inductive Pt' where
 | w (s : Str)
 | n
 | a
 | b
 | B
def formsP : List (Int × List Pt') := [
 (1, [.w (bz [108, 101, 116]), .n, .w (bz [61]), .a, .w (bz [59])]),
 (2, [.w (bz [108, 111, 97, 100]), .n, .w (bz [61]), .w (bz [91]), .a, .w (bz [93]), .w (bz [59])]),
 (3, [.w (bz [115, 116, 111, 114, 101]), .w (bz [91]), .a, .w (bz [93]), .w (bz [61]), .b, .w (bz [59])]),
 (4, [.w (bz [97, 115, 121, 110, 99]), .B]),
 (5, [.w (bz [102, 105, 110, 105, 115, 104]), .B]),
 (6, [.w (bz [105, 102]), .a, .B]),
 (7, [.w (bz [102, 111, 114]), .n, .w (bz [61]), .a, .w (bz [116, 111]), .b, .B])]
def St.setN (s : St) (x : Str) : St := match s with | .mk k _ a b l m => .mk k x a b l m
def St.setA (s : St) (x : Ex) : St := match s with | .mk k n _ b l m => .mk k n x b l m
def St.setB (s : St) (x : Ex) : St := match s with | .mk k n a _ l m => .mk k n a x l m
def St.setL (s : St) (x : List St) : St := match s with | .mk k n a b _ m => .mk k n a b x m
def St.setE (s : St) (x : List St) : St := match s with | .mk k n a b l _ => .mk k n a b l x
def St.setK (s : St) (x : Int) : St := match s with | .mk _ n a b l m => .mk x n a b l m
def partG (fu : Nat) (sts : List LTok → PO (List St)) (p : Pt') (s : St) (ts : List LTok) : PO St :=
 match p with
 | .w x => PO.bind (some (wantG [x] ts)) fun _ r => some (.ok s r)
 | .n => PO.bind (some (nameG ts)) fun x r => some (.ok (s.setN x) r)
 | .a => PO.bind (exG fu (.ex 0) ts) fun x r => some (.ok (s.setA x) r)
 | .b => PO.bind (exG fu (.ex 0) ts) fun x r => some (.ok (s.setB x) r)
 | .B => PO.bind (blockG sts ts) fun x r => some (.ok (s.setL x) r)
def formG (fu : Nat) (sts : List LTok → PO (List St)) : List Pt' → St → List LTok → PO St
 | [], s, ts => some (.ok s ts)
 | p :: ps, s, ts => PO.bind (partG fu sts p s ts) fun s r => formG fu sts ps s r
def elseG (sts : List LTok → PO (List St)) (s : St) (ts : List LTok) : PO St :=
 if isT (bz [101, 108, 115, 101]) ts then PO.bind (blockG sts ts.tail) fun x r => some (.ok (s.setE x) r) else some (.ok s ts)
def kindG (fu : Nat) (sts : List LTok → PO (List St)) (f : Int × List Pt') (ts : List LTok) : PO St :=
 PO.bind (formG fu sts f.2 noSt ts) fun s r => if f.1 = 6 then elseG sts (s.setK f.1) r else some (.ok (s.setK f.1) r)
def headP (f : Int × List Pt') : Str := match f.2 with | .w x :: _ => x | _ => ⟨#[]⟩
def stmtG (fu : Nat) (sts : List LTok → PO (List St)) (fs : List (Int × List Pt')) (ts : List LTok) : PO St :=
 match fs with
 | [] => some (.no ts)
 | f :: fs => if isT (headP f) ts then kindG fu sts f ts else stmtG fu sts fs ts
def stsG : Nat → List St → List LTok → PO (List St)
 | 0, _, _ => none
 | n + 1, acc, ts => if anyG begS ts = ⟨#[]⟩ then some (.ok acc ts) else PO.bind (stmtG n (stsG n []) formsP ts) fun s r => stsG n (acc ++ [s]) r
theorem stsG_stop {n : Nat} {acc : List St} {ts : List LTok} (h : anyG begS ts = ⟨#[]⟩) : stsG (n + 1) acc ts = some (.ok acc ts) := by rw [stsG, if_pos h]
theorem stsG_step {n : Nat} {acc : List St} {ts : List LTok} (h : ¬ anyG begS ts = ⟨#[]⟩) : stsG (n + 1) acc ts = PO.bind (stmtG n (stsG n []) formsP ts) fun s r => stsG n (acc ++ [s]) r := by rw [stsG, if_neg h]
def placeG (en : Int) : List LTok → Int
 | [] => en
 | t :: _ => t.pos
/-! What is left is less; with enough fuel all is told. -/
theorem isT_ne {s : Str} {ts : List LTok} (h : isT s ts = true) : ∃ t r, ts = t :: r := by
 cases ts with
 | nil => simp [isT] at h
 | cons t r => exact ⟨t, r, rfl⟩
theorem anyG_ne {l : List Str} {ts : List LTok} (h : ¬ anyG l ts = ⟨#[]⟩) : ∃ t r, ts = t :: r := by
 cases ts with
 | cons t r => exact ⟨t, r, rfl⟩
 | nil =>
  exfalso
  induction l with
  | nil => exact h rfl
  | cons s l ih => simp only [anyG, isT, Bool.false_eq_true, if_false] at h; exact ih h
theorem wantG_len {l : List Str} : ∀ {ts r : List LTok} {u : Unit}, wantG l ts = .ok u r → r.length + l.length = ts.length := by
 induction l with
 | nil => intro ts r u h; simp only [wantG, PR.ok.injEq] at h; rw [h.2]; rfl
 | cons s l ih =>
  intro ts r u h
  rw [wantG] at h
  split at h
  ·obtain ⟨t, q, rfl⟩ := isT_ne (by assumption)
   have := ih h
   simp only [List.tail_cons, List.length_cons] at this ⊢
   omega
  ·cases h
theorem nameG_len {ts r : List LTok} {s : Str} (h : nameG ts = .ok s r) : r.length + 1 = ts.length := by
 cases ts with
 | nil => cases h
 | cons t q =>
  rw [nameG] at h
  split at h
  ·simp only [PR.ok.injEq] at h; rw [h.2]; rfl
  ·cases h
def moLen : Mo → Nat | .ex _ => 1 | .row _ _ => 0
theorem exG_len : ∀ (n : Nat) (m : Mo) (ts r : List LTok) (x : Ex), exG n m ts = some (.ok x r) → r.length + moLen m ≤ ts.length := by
 intro n
 induction n with
 | zero => intro m ts r x h; simp [exG] at h
 | succ n ih =>
  intro m ts r x h
  cases m with
  | ex lvl =>
   by_cases hl : lvl < 3
   ·rw [exG_ex hl] at h
    rcases PO.bind_some h with ⟨_, _, h2⟩ | ⟨a, q, h1, h2⟩
    ·cases h2
    ·have := ih _ _ _ _ h1
     have := ih _ _ _ _ h2
     simp only [moLen] at *
     omega
   ·have e : exG (n + 1) (.ex lvl) ts = exG (n + 1) (.ex 3) ts := by simp only [exG, if_neg hl]; rfl
    rw [e] at h
    cases ho : isT (bz [40]) ts with
    | true =>
     rw [exG_open ho] at h
     obtain ⟨t, q, rfl⟩ := isT_ne ho
     rcases PO.bind_some h with ⟨_, _, h2⟩ | ⟨a, q2, h1, h2⟩
     ·cases h2
     ·have := ih _ _ _ _ h1
      rcases PO.bind_some h2 with ⟨_, _, h4⟩ | ⟨u, q3, h3, h4⟩
      ·cases h4
      ·have := wantG_len (Option.some.inj h3)
       simp only [Option.some.injEq, PR.ok.injEq] at h4
       obtain ⟨_, rfl⟩ := h4
       simp only [moLen, List.tail_cons, List.length_cons, List.length_nil] at *
       omega
    | false =>
     cases ts with
     | nil => rw [exG_nil] at h; cases h
     | cons t q =>
      by_cases h1 : t.kind = 1
      ·rw [exG_num ho h1] at h
       simp only [Option.some.injEq, PR.ok.injEq] at h
       rw [h.2]; simp [moLen]
      ·rw [exG_name ho h1] at h
       rcases PO.bind_some h with ⟨_, _, h2⟩ | ⟨a, q2, h1, h2⟩
       ·cases h2
       ·have := nameG_len (Option.some.inj h1)
        simp only [Option.some.injEq, PR.ok.injEq] at h2
        obtain ⟨_, rfl⟩ := h2
        simp only [moLen]; omega
  | row lvl a =>
   by_cases ha : anyG (lvlS lvl) ts = ⟨#[]⟩
   ·rw [exG_stop ha] at h
    simp only [Option.some.injEq, PR.ok.injEq] at h
    rw [h.2]; simp [moLen]
   ·rw [exG_row ha] at h
    obtain ⟨t, q, rfl⟩ := anyG_ne ha
    rcases PO.bind_some h with ⟨_, _, h2⟩ | ⟨b, q2, h1, h2⟩
    ·cases h2
    ·have := ih _ _ _ _ h1
     split at h2
     ·simp only [Option.some.injEq, PR.ok.injEq] at h2
      obtain ⟨_, rfl⟩ := h2
      simp only [moLen, List.tail_cons, List.length_cons] at *; omega
     ·have := ih _ _ _ _ h2
      simp only [moLen, List.tail_cons, List.length_cons] at *; omega
theorem bind_told {α β : Type} {m : PO α} {f : α → List LTok → PO β} (h : m ≠ none) (k : ∀ a r, m = some (.ok a r) → f a r ≠ none) : PO.bind m f ≠ none := by
 match m, h, k with
 | some (.no r), h, k => simp [PO.bind]
 | some (.ok a r), h, k => exact k a r rfl
def moFuel : Mo → Nat | .ex lvl => 5 - lvl | .row _ _ => 1
theorem exG_told : ∀ (n : Nat) (m : Mo) (ts : List LTok), 5 * ts.length + moFuel m ≤ n → (∀ l, m = .ex l → l ≤ 3) → (∀ l a, m = .row l a → l ≤ 2) → exG n m ts ≠ none := by
 intro n
 induction n with
 | zero => intro m ts h h1 h2; cases m with
  | ex l => have := h1 l rfl; simp only [moFuel] at h; omega
  | row l a => simp [moFuel] at h
 | succ n ih =>
  intro m ts h hm1 hm2
  cases m with
  | ex lvl =>
   have hl3 := hm1 lvl rfl
   by_cases hl : lvl < 3
   ·rw [exG_ex hl]
    refine bind_told (ih _ _ (by simp only [moFuel] at *; omega) (fun l e => by cases e; omega) (fun l a e => by cases e)) (fun a r h1 => ?_)
    have := exG_len _ _ _ _ _ h1
    exact ih _ _ (by simp only [moFuel, moLen] at *; omega) (fun l e => by cases e) (fun l a e => by cases e; omega)
   ·obtain rfl : lvl = 3 := by omega
    cases ho : isT (bz [40]) ts with
    | true =>
     rw [exG_open ho]
     obtain ⟨t, q, rfl⟩ := isT_ne ho
     refine bind_told (ih _ _ (by simp only [moFuel, List.tail_cons, List.length_cons] at *; omega) (fun l e => by cases e; omega) (fun l a e => by cases e)) (fun a r h1 => ?_)
     exact bind_told (by simp) (fun a r h1 => by simp)
    | false =>
     cases ts with
     | nil => rw [exG_nil]; simp
     | cons t q =>
      by_cases h1 : t.kind = 1
      ·rw [exG_num ho h1]; simp
      ·rw [exG_name ho h1]; exact bind_told (by simp) (fun a r h1 => by simp)
  | row lvl a =>
   have hl2 := hm2 lvl a rfl
   by_cases ha : anyG (lvlS lvl) ts = ⟨#[]⟩
   ·rw [exG_stop ha]; simp
   ·rw [exG_row ha]
    obtain ⟨t, q, rfl⟩ := anyG_ne ha
    refine bind_told (ih _ _ (by simp only [moFuel, List.tail_cons, List.length_cons] at *; omega) (fun l e => by cases e; omega) (fun l a e => by cases e)) (fun b r h1 => ?_)
    have := exG_len _ _ _ _ _ h1
    split
    ·simp
    ·exact ih _ _ (by simp only [moFuel, moLen, List.tail_cons, List.length_cons] at *; omega) (fun l e => by cases e) (fun l a e => by cases e; omega)
theorem blockG_len {sts : List LTok → PO (List St)} (hs : ∀ ts l r, sts ts = some (.ok l r) → r.length ≤ ts.length) {ts r : List LTok} {l : List St} (h : blockG sts ts = some (.ok l r)) : r.length + 2 ≤ ts.length := by
 unfold blockG at h
 rcases PO.bind_some h with ⟨_, _, h2⟩ | ⟨u, q, h1, h2⟩
 ·cases h2
 ·have h3 := wantG_len (Option.some.inj h1)
  rcases PO.bind_some h2 with ⟨_, _, h4⟩ | ⟨x, q2, h5, h4⟩
  ·cases h4
  ·have h6 := hs _ _ _ h5
   rcases PO.bind_some h4 with ⟨_, _, h7⟩ | ⟨u2, q3, h8, h7⟩
   ·cases h7
   ·have h9 := wantG_len (Option.some.inj h8)
    simp only [Option.some.injEq, PR.ok.injEq] at h7
    obtain ⟨_, rfl⟩ := h7
    simp only [List.length_cons, List.length_nil] at *
    omega
theorem partG_len {fu : Nat} {sts : List LTok → PO (List St)} (hs : ∀ ts l r, sts ts = some (.ok l r) → r.length ≤ ts.length) {p : Pt'} {s s' : St} {ts r : List LTok} (h : partG fu sts p s ts = some (.ok s' r)) : r.length + 1 ≤ ts.length := by
 cases p <;> simp only [partG] at h <;> rcases PO.bind_some h with ⟨_, _, h2⟩ | ⟨u, q, h1, h2⟩ <;> first | (cases h2; done) | skip
 all_goals simp only [Option.some.injEq, PR.ok.injEq] at h2; obtain ⟨_, rfl⟩ := h2
 ·have := wantG_len (Option.some.inj h1); simp only [List.length_cons, List.length_nil] at this; omega
 ·have := nameG_len (Option.some.inj h1); omega
 ·have := exG_len _ _ _ _ _ h1; simp only [moLen] at this; omega
 ·have := exG_len _ _ _ _ _ h1; simp only [moLen] at this; omega
 ·have := blockG_len hs h1; omega
theorem formG_len {fu : Nat} {sts : List LTok → PO (List St)} (hs : ∀ ts l r, sts ts = some (.ok l r) → r.length ≤ ts.length) : ∀ (ps : List Pt') {s s' : St} {ts r : List LTok}, formG fu sts ps s ts = some (.ok s' r) → r.length + ps.length ≤ ts.length := by
 intro ps
 induction ps with
 | nil => intro s s' ts r h; simp only [formG, Option.some.injEq, PR.ok.injEq] at h; rw [h.2]; simp
 | cons p ps ih =>
  intro s s' ts r h
  rw [formG] at h
  rcases PO.bind_some h with ⟨_, _, h2⟩ | ⟨u, q, h1, h2⟩
  ·cases h2
  ·have := partG_len hs h1
   have := ih h2
   simp only [List.length_cons]; omega
theorem kindG_len {fu : Nat} {sts : List LTok → PO (List St)} (hs : ∀ ts l r, sts ts = some (.ok l r) → r.length ≤ ts.length) {f : Int × List Pt'} (hf : 0 < f.2.length) {s' : St} {ts r : List LTok} (h : kindG fu sts f ts = some (.ok s' r)) : r.length + 1 ≤ ts.length := by
 unfold kindG at h
 rcases PO.bind_some h with ⟨_, _, h2⟩ | ⟨u, q, h1, h2⟩
 ·cases h2
 ·have h3 := formG_len hs _ h1
  split at h2
  ·unfold elseG at h2
   split at h2
   ·obtain ⟨t, q2, rfl⟩ := isT_ne (by assumption)
    rcases PO.bind_some h2 with ⟨_, _, h4⟩ | ⟨x, q3, h5, h4⟩
    ·cases h4
    ·have := blockG_len hs h5
     simp only [Option.some.injEq, PR.ok.injEq] at h4
     obtain ⟨_, rfl⟩ := h4
     simp only [List.tail_cons, List.length_cons] at *
     omega
   ·simp only [Option.some.injEq, PR.ok.injEq] at h2
    rw [← h2.2]; omega
  ·simp only [Option.some.injEq, PR.ok.injEq] at h2
   rw [← h2.2]; omega
theorem stmtG_len {fu : Nat} {sts : List LTok → PO (List St)} (hs : ∀ ts l r, sts ts = some (.ok l r) → r.length ≤ ts.length) {fs : List (Int × List Pt')} (hf : ∀ f ∈ fs, 0 < f.2.length) {s' : St} {ts r : List LTok} (h : stmtG fu sts fs ts = some (.ok s' r)) : r.length + 1 ≤ ts.length := by
 induction fs with
 | nil => cases h
 | cons f fs ih =>
  rw [stmtG] at h
  split at h
  ·exact kindG_len hs (hf f (by simp)) h
  ·exact ih (fun g hg => hf g (by simp [hg])) h
theorem forms_ne : ∀ f ∈ formsP, 0 < f.2.length := by decide
theorem stsG_len : ∀ (n : Nat) (acc : List St) (ts r : List LTok) (l : List St), stsG n acc ts = some (.ok l r) → r.length ≤ ts.length := by
 intro n
 induction n with
 | zero => intro acc ts r l h; cases h
 | succ n ih =>
  intro acc ts r l h
  by_cases ha : anyG begS ts = ⟨#[]⟩
  ·rw [stsG_stop ha] at h
   simp only [Option.some.injEq, PR.ok.injEq] at h
   rw [h.2]; exact Nat.le_refl _
  ·rw [stsG_step ha] at h
   rcases PO.bind_some h with ⟨_, _, h2⟩ | ⟨s, q, h1, h2⟩
   ·cases h2
   ·have := stmtG_len (fun ts l r h => ih [] ts r l h) forms_ne h1
    have := ih _ _ _ _ h2
    omega
theorem blockG_told {sts : List LTok → PO (List St)} {ts : List LTok} (hs : ∀ q, q.length + 1 ≤ ts.length → sts q ≠ none) : blockG sts ts ≠ none := by
 unfold blockG
 refine bind_told (by simp) (fun u r h => ?_)
 have h1 := wantG_len (Option.some.inj h)
 refine bind_told (hs _ (by simp only [List.length_cons, List.length_nil] at h1; omega)) (fun l r2 h2 => bind_told (by simp) (fun _ _ _ => by simp))
theorem partG_told {fu : Nat} {sts : List LTok → PO (List St)} {p : Pt'} {s : St} {ts : List LTok} (hs : ∀ q, q.length + 1 ≤ ts.length → sts q ≠ none) (he : 5 * ts.length + 5 ≤ fu) : partG fu sts p s ts ≠ none := by
 have hx : exG fu (.ex 0) ts ≠ none := exG_told _ _ _ (by simp only [moFuel]; omega) (fun l e => by cases e; omega) (fun l a e => by cases e)
 cases p <;> simp only [partG] <;> refine bind_told ?_ (fun _ _ _ => by simp)
 ·simp
 ·simp
 ·exact hx
 ·exact hx
 ·exact blockG_told hs
theorem formG_told {fu : Nat} {sts : List LTok → PO (List St)} (hl : ∀ ts l r, sts ts = some (.ok l r) → r.length ≤ ts.length) {m : Nat} (hs : ∀ q, q.length + 1 ≤ m → sts q ≠ none) (he : 5 * m + 5 ≤ fu) : ∀ (ps : List Pt') (s : St) (ts : List LTok), ts.length ≤ m → formG fu sts ps s ts ≠ none := by
 intro ps
 induction ps with
 | nil => intro s ts h; simp [formG]
 | cons p ps ih =>
  intro s ts h
  rw [formG]
  refine bind_told (partG_told (fun q hq => hs q (by omega)) (by omega)) (fun s' r h1 => ?_)
  have := partG_len hl h1
  exact ih _ _ (by omega)
theorem formG_told' {fu : Nat} {sts : List LTok → PO (List St)} (hl : ∀ ts l r, sts ts = some (.ok l r) → r.length ≤ ts.length) {m : Nat} (hs : ∀ q, q.length + 1 ≤ m → sts q ≠ none) (he : 5 * m + 5 ≤ fu) (x : Str) (ps : List Pt') (s : St) (ts : List LTok) (h : ts.length ≤ m + 1) : formG fu sts (.w x :: ps) s ts ≠ none := by
 rw [formG]
 refine bind_told (by simp only [partG]; exact bind_told (by simp) (fun _ _ _ => by simp)) (fun s' r h1 => ?_)
 have := partG_len hl h1
 exact formG_told hl hs he _ _ _ (by omega)
theorem kindG_told {fu : Nat} {sts : List LTok → PO (List St)} (hl : ∀ ts l r, sts ts = some (.ok l r) → r.length ≤ ts.length) {m : Nat} (hs : ∀ q, q.length ≤ m → sts q ≠ none) (he : 5 * m + 5 ≤ fu) (k : Int) (x : Str) (ps : List Pt') (ts : List LTok) (h : ts.length ≤ m + 1) : kindG fu sts (k, .w x :: ps) ts ≠ none := by
 unfold kindG
 refine bind_told (formG_told' hl (fun q hq => hs q (by omega)) he _ _ _ _ h) (fun s' r h1 => ?_)
 have h2 := formG_len hl _ h1
 simp only [List.length_cons] at h2
 split
 ·unfold elseG
  split
  ·exact bind_told (blockG_told fun q hq => hs q (by rw [List.length_tail] at hq; omega)) (fun _ _ _ => by simp)
  ·simp
 ·simp
theorem forms_w : ∀ f ∈ formsP, ∃ k x ps, f = (k, .w x :: ps) := by
 intro f hf
 simp only [formsP, List.mem_cons, List.not_mem_nil, or_false] at hf
 rcases hf with rfl | rfl | rfl | rfl | rfl | rfl | rfl <;> exact ⟨_, _, _, rfl⟩
theorem stmtG_told {fu : Nat} {sts : List LTok → PO (List St)} (hl : ∀ ts l r, sts ts = some (.ok l r) → r.length ≤ ts.length) {m : Nat} (hs : ∀ q, q.length ≤ m → sts q ≠ none) (he : 5 * m + 5 ≤ fu) (fs : List (Int × List Pt')) (hf : ∀ f ∈ fs, ∃ k x ps, f = (k, .w x :: ps)) (ts : List LTok) (h : ts.length ≤ m + 1) : stmtG fu sts fs ts ≠ none := by
 induction fs with
 | nil => simp [stmtG]
 | cons f fs ih =>
  rw [stmtG]
  split
  ·obtain ⟨k, x, ps, rfl⟩ := hf f (by simp)
   exact kindG_told hl hs he k x ps ts h
  ·exact ih (fun g hg => hf g (by simp [hg]))
theorem stsG_told : ∀ (n : Nat) (acc : List St) (ts : List LTok), 6 * ts.length + 1 ≤ n → stsG n acc ts ≠ none := by
 intro n
 induction n with
 | zero => intro acc ts h; omega
 | succ n ih =>
  intro acc ts h
  by_cases ha : anyG begS ts = ⟨#[]⟩
  ·rw [stsG_stop ha]; simp
  ·rw [stsG_step ha]
   obtain ⟨t, q, rfl⟩ := anyG_ne ha
   simp only [List.length_cons] at h
   refine bind_told (stmtG_told (fun ts l r h => stsG_len _ _ _ _ _ h) (m := q.length) (fun q2 hq => ih _ _ (by omega)) (by omega) _ forms_w _ (by simp)) (fun s r h1 => ?_)
   have := stmtG_len (fun ts l r h => stsG_len _ _ _ _ _ h) forms_ne h1
   simp only [List.length_cons] at this
   exact ih _ _ (by omega)
def lexOk (t : LTok) : Prop := ∃ l, tokL l = some (t.kind, t.text)
theorem lexG_ok (l : List UInt8) : ∀ (n a : Nat) (out : List LTok), (∀ t ∈ out, lexOk t) → ∀ t ∈ (lexG l n a out).1, lexOk t := by
 intro n
 induction n with
 | zero => intro a out h; exact h
 | succ n ih =>
  intro a out h
  rw [lexG]
  split
  ·split
   ·intro t ht; cases ht
   ·rename_i k x hk
    refine ih _ _ (fun t ht => ?_)
    rcases List.mem_append.1 ht with h1 | h1
    ·exact h t h1
    ·rw [List.mem_singleton.1 h1]; exact ⟨_, hk⟩
  ·exact h
theorem lexR_ok (l : List UInt8) : ∀ t ∈ (lexR l).1, lexOk t := lexG_ok l _ _ _ (fun t ht => by cases ht)
theorem of_takeW (p : UInt8 → Bool) : ∀ (l : List UInt8) (x : UInt8), x ∈ l.takeWhile p → p x = true
 | [], x, h => by cases h
 | c :: r, x, h => by
  rw [List.takeWhile_cons] at h
  split at h
  ·rcases List.mem_cons.1 h with rfl | h
   ·assumption
   ·exact of_takeW p r x h
  ·cases h
theorem lexOk.name {t : LTok} (h : lexOk t) (hk : t.kind = 2) : knameB t.str = !keptB t.str := by
 obtain ⟨l, h⟩ := h
 cases l with
 | nil => cases h
 | cons c r =>
  rw [tokL_cons] at h
  split at h
  ·split at h
   ·simp only [Option.some.injEq, Prod.mk.injEq] at h; omega
   ·cases h
  ·split at h
   ·rename_i hc
    simp only [Option.some.injEq, Prod.mk.injEq] at h
    have e : t.text = c :: r.takeWhile nameB := by
     rw [← h.2, List.takeWhile_cons, if_pos (by unfold nameB; rw [hc]; rfl)]
    unfold knameB
    have h2 : nameL t.str.data.toList = true := by
     show nameL t.text = true
     rw [e]
     show (letB c && (r.takeWhile nameB).all nameB) = true
     rw [hc, Bool.true_and, List.all_eq_true]
     intro x hx
     exact of_takeW _ _ _ hx
    rw [h2, Bool.true_and]
   ·split at h
    ·simp only [Option.some.injEq, Prod.mk.injEq] at h; omega
    ·split at h
     ·simp only [Option.some.injEq, Prod.mk.injEq] at h; omega
     ·cases h
theorem lexOk.num {t : LTok} (h : lexOk t) (hk : t.kind = 1) : t.text ≠ [] ∧ (∀ c ∈ t.text, digB c = true) ∧ numS ⟨t.text.toArray⟩ = true := by
 obtain ⟨l, h⟩ := h
 cases l with
 | nil => cases h
 | cons c r =>
  rw [tokL_cons] at h
  split at h
  ·rename_i hc
   split at h
   ·rename_i hn
    simp only [Option.some.injEq, Prod.mk.injEq] at h
    refine ⟨?_, ?_, by rw [← h.2]; exact hn⟩
    ·rw [← h.2, List.takeWhile_cons, if_pos hc]; simp
    ·rw [← h.2]; intro x hx; exact of_takeW _ _ _ hx
   ·cases h
  ·split at h
   ·simp only [Option.some.injEq, Prod.mk.injEq] at h; omega
   ·split at h
    ·simp only [Option.some.injEq, Prod.mk.injEq] at h; omega
    ·split at h
     ·simp only [Option.some.injEq, Prod.mk.injEq] at h; omega
     ·cases h
theorem lexOk.val {t : LTok} (h : lexOk t) (hk : t.kind = 1) : vA 0 t.text < 9223372036854775808 ∧ Lib.parseIntB 64 t.text = .ok (vA 0 t.text : Int) := by
 obtain ⟨h0, h1, h2⟩ := h.num hk
 have hj := numJ_eq t.text h0 h1
 rw [h2] at hj
 unfold numJ at hj
 rw [parseInt_dig t.text h0 h1] at hj ⊢
 split at hj
 ·rename_i v hv
  by_cases hlt : vA 0 t.text < 9223372036854775808
  ·exact ⟨hlt, by rw [if_pos hlt]⟩
  ·rw [if_neg hlt] at hv; cases hv
 ·cases hj
end Go.Proofs.YtnpgpcnkdocknaaGreatDoor
