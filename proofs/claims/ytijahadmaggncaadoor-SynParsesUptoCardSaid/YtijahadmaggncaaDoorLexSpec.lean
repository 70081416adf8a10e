/- Texts and their tokens as plain lists: what package lex reckons. -/
import Derived.Test.YtijahadmaggncaaDoorBase
import Derived.Lib.Strings
namespace Go.Proofs.YtijahadmaggncaaDoor
set_option linter.unusedVariables false
structure LTok where
  kind : Int
  pos : Nat
  text : List UInt8
def digB (c : UInt8) : Bool := decide (48 ≤ c.toNat) && decide (c.toNat ≤ 57)
def letB (c : UInt8) : Bool := decide (97 ≤ c.toNat) && decide (c.toNat ≤ 122)
def blkB (c : UInt8) : Bool := decide (c.toNat = 32) || decide (c.toNat = 10) || decide (c.toNat = 9)
def nameB (c : UInt8) : Bool := letB c || digB c
def signsL : List UInt8 := [123, 125, 91, 93, 40, 41, 59, 61, 60, 43, 45, 42, 47, 37]
def sgnB (c : UInt8) : Bool := signsL.contains c
def mostL : List UInt8 := [57, 50, 50, 51, 51, 55, 50, 48, 51, 54, 56, 53, 52, 55, 55, 53, 56, 48, 55]
/-- are digits a number? -/
def numS (t : ByteArray) : Bool := (decide (t.size = 1) || !decide (((t.data.toList.head?).getD 0).toNat = 48)) && (decide (t.size < 19) || (decide (t.size = 19) && (Op.bytesLess t.toList mostL || t.toList == mostL)))
/-- how far something goes on -/
def runL (p : UInt8 → Bool) (l : List UInt8) (at_ : Nat) : Nat := at_ + ((l.drop at_).takeWhile p).length
/-- the token that begins here: its kind and its text -/
def tokL : List UInt8 → Option (Int × List UInt8)
  | [] => none
  | c :: r =>
    if digB c then (if numS ⟨((c :: r).takeWhile digB).toArray⟩ then some (1, (c :: r).takeWhile digB) else none)
    else if letB c then some (2, (c :: r).takeWhile nameB)
    else if Lib.hasPrefix (c :: r) [61, 61] then some (3, [61, 61])
    else if sgnB c then some (3, [c]) else none
theorem tokL_cons (c : UInt8) (r : List UInt8) : tokL (c :: r) = if digB c then (if numS ⟨((c :: r).takeWhile digB).toArray⟩ then some (1, (c :: r).takeWhile digB) else none)
    else if letB c then some (2, (c :: r).takeWhile nameB)
    else if Lib.hasPrefix (c :: r) [61, 61] then some (3, [61, 61])
    else if sgnB c then some (3, [c]) else none := rfl
def lexG (l : List UInt8) : Nat → Nat → List LTok → List LTok × Nat × Int
  | 0, _, out => (out, 0, 0)
  | n + 1, a, out =>
    if a < l.length then
      match tokL (l.drop a) with
      | none => ([], a, 1)
      | some (k, t) => lexG l n (runL blkB l (a + t.length)) (out ++ [⟨k, a, t⟩])
    else (out, 0, 0)
def lexR (l : List UInt8) : List LTok × Nat × Int := lexG l (l.length + 1) (runL blkB l 0) []
theorem runL_le {p : UInt8 → Bool} {l : List UInt8} {a : Nat} (h : a ≤ l.length) : runL p l a ≤ l.length := by
  unfold runL
  have := (List.takeWhile_sublist p (l := l.drop a)).length_le
  rw [List.length_drop] at this
  omega
theorem runL_ge {p : UInt8 → Bool} {l : List UInt8} {a : Nat} : a ≤ runL p l a := by unfold runL; omega
theorem runL_step {p : UInt8 → Bool} {l : List UInt8} {a : Nat} (h : a < l.length) (hp : p l[a] = true) : runL p l a = runL p l (a + 1) := by
  unfold runL
  rw [List.drop_eq_getElem_cons h, List.takeWhile_cons, if_pos hp, List.length_cons]
  omega
theorem runL_stop {p : UInt8 → Bool} {l : List UInt8} {a : Nat} (h : a < l.length) (hp : p l[a] = false) : runL p l a = a := by
  unfold runL
  rw [List.drop_eq_getElem_cons h, List.takeWhile_cons, if_neg (by rw [hp]; simp)]
  rfl
theorem runL_end {p : UInt8 → Bool} {l : List UInt8} {a : Nat} (h : l.length ≤ a) : runL p l a = a := by
  unfold runL
  rw [List.drop_eq_nil_of_le h]; rfl
theorem tokL_some {l : List UInt8} {k : Int} {t : List UInt8} (h : tokL l = some (k, t)) : 0 < t.length ∧ t = l.take t.length ∧ t.length ≤ l.length ∧ (k = 1 ∨ k = 2 ∨ k = 3) := by
  cases l with
  | nil => cases h
  | cons c r =>
    have key : ∀ p : UInt8 → Bool, p c = true → 0 < ((c :: r).takeWhile p).length ∧ (c :: r).takeWhile p = (c :: r).take ((c :: r).takeWhile p).length ∧ ((c :: r).takeWhile p).length ≤ (c :: r).length := by
      intro p hp
      refine ⟨by rw [List.takeWhile_cons, if_pos hp]; simp, ?_, (List.takeWhile_sublist p).length_le⟩
      exact (List.prefix_iff_eq_take.1 (List.takeWhile_prefix p))
    rw [tokL_cons] at h
    split at h
    · rename_i hd
      split at h
      · cases h; obtain ⟨a, b, c⟩ := key digB hd; exact ⟨a, b, c, .inl rfl⟩
      · cases h
    · split at h
      · rename_i hl
        cases h
        obtain ⟨a, b, c⟩ := key nameB (by unfold nameB; rw [hl]; rfl); exact ⟨a, b, c, .inr (.inl rfl)⟩
      · split at h
        · rename_i hp
          cases h
          unfold Lib.hasPrefix at hp
          obtain ⟨u, hu⟩ := List.isPrefixOf_iff_prefix.1 hp
          rw [← hu]
          exact ⟨by simp, by simp, by simp, .inr (.inr rfl)⟩
        · split at h
          · cases h; exact ⟨by simp, by simp, by simp, .inr (.inr rfl)⟩
          · cases h
/-- the tokens come one behind the other -/
theorem lexG_step {l : List UInt8} {n a : Nat} {out : List LTok} {k : Int} {t : List UInt8} (ha : a < l.length) (h : tokL (l.drop a) = some (k, t)) : lexG l (n + 1) a out = lexG l n (runL blkB l (a + t.length)) (out ++ [⟨k, a, t⟩]) := by
  conv => lhs; unfold lexG
  rw [if_pos ha, h]
theorem lexG_bad {l : List UInt8} {n a : Nat} {out : List LTok} (ha : a < l.length) (h : tokL (l.drop a) = none) : lexG l (n + 1) a out = ([], a, 1) := by
  conv => lhs; unfold lexG
  rw [if_pos ha, h]
theorem lexG_end {l : List UInt8} {n a : Nat} {out : List LTok} (ha : l.length ≤ a) : lexG l (n + 1) a out = (out, 0, 0) := by
  conv => lhs; unfold lexG
  rw [if_neg (by omega)]
theorem lexG_more (l : List UInt8) : ∀ (n a : Nat) (out : List LTok), (lexG l n a out).2.2 = 0 → ∃ more, (lexG l n a out).1 = out ++ more
  | 0, a, out, _ => ⟨[], by simp [lexG]⟩
  | n + 1, a, out, h => by
    rcases Nat.lt_or_ge a l.length with ha | ha
    · cases e : tokL (l.drop a) with
      | none => rw [lexG_bad ha e] at h; cases h
      | some kt =>
        obtain ⟨k, t⟩ := kt
        rw [lexG_step ha e] at h ⊢
        obtain ⟨more, hm⟩ := lexG_more l n _ _ h
        exact ⟨⟨k, a, t⟩ :: more, by rw [hm]; simp⟩
    · rw [lexG_end ha]; exact ⟨[], by simp⟩
/-- a name's form -/
def nameL (l : List UInt8) : Bool := match l with
  | [] => false
  | c :: r => letB c && r.all nameB
theorem takeWhile_all {p : UInt8 → Bool} {l : List UInt8} (h : l.takeWhile p = l) : ∀ x ∈ l, p x = true := by
  induction l with
  | nil => intro x hx; cases hx
  | cons c r ih =>
    rw [List.takeWhile_cons] at h
    split at h
    · rename_i hc
      intro x hx
      rcases List.mem_cons.1 hx with rfl | hx
      · exact hc
      · exact ih (List.cons.inj h).2 x hx
    · cases h
theorem all_takeWhile {p : UInt8 → Bool} {l : List UInt8} (h : ∀ x ∈ l, p x = true) : l.takeWhile p = l := by
  induction l with
  | nil => rfl
  | cons c r ih =>
    rw [List.takeWhile_cons, if_pos (h c (by simp)), ih (fun x hx => h x (by simp [hx]))]
def nameOf (l : List UInt8) (R : List LTok × Nat × Int) : Bool := match R with
  | ([t], _, e) => decide (e = 0) && decide (t.kind = 2) && (t.text == l)
  | _ => false
theorem letB_not {c : UInt8} (h : letB c = true) : digB c = false ∧ blkB c = false := by
  unfold letB at h
  simp only [Bool.and_eq_true, decide_eq_true_eq] at h
  unfold digB blkB
  constructor
  · rw [decide_eq_false (p := c.toNat ≤ 57) (by omega)]; simp
  · rw [decide_eq_false (by omega), decide_eq_false (by omega), decide_eq_false (by omega)]; rfl
theorem name_eq (l : List UInt8) : nameOf l (lexR l) = nameL l := by
  rw [Bool.eq_iff_iff]
  constructor
  · intro h
    unfold lexR at h
    rcases Nat.lt_or_ge (runL blkB l 0) l.length with ha | ha
    · cases e : tokL (l.drop (runL blkB l 0)) with
      | none => rw [lexG_bad ha e] at h; simp [nameOf] at h
      | some kt =>
        obtain ⟨k, t⟩ := kt
        rw [lexG_step ha e] at h
        generalize hR : lexG l l.length (runL blkB l (runL blkB l 0 + t.length)) ([] ++ [⟨k, runL blkB l 0, t⟩]) = R at h
        have hm := lexG_more l l.length (runL blkB l (runL blkB l 0 + t.length)) ([] ++ [⟨k, runL blkB l 0, t⟩])
        rw [hR] at hm
        unfold nameOf at h
        split at h
        · rename_i t' p' e'
          simp only [Bool.and_eq_true, decide_eq_true_eq, beq_iff_eq] at h
          obtain ⟨⟨h1, h2⟩, h3⟩ := h
          obtain ⟨more, hm⟩ := hm h1
          simp at hm
          obtain ⟨rfl, _⟩ := hm
          obtain ⟨s1, s2, s3, _⟩ := tokL_some e
          simp only at h2 h3
          subst h3
          rw [List.length_drop] at s3
          have ha0 : runL blkB t 0 = 0 := by omega
          rw [ha0, List.drop_zero] at e
          subst h2
          cases t with
          | nil => cases e
          | cons c r =>
            rw [tokL_cons] at e
            split at e
            · split at e <;> simp at e
            · split at e
              · rename_i hl
                simp at e
                show (letB c && r.all nameB) = true
                rw [hl, Bool.true_and, List.all_eq_true]
                intro x hx
                exact takeWhile_all e x (by simp [hx])
              · split at e
                · simp at e
                · split at e <;> simp at e
        · cases h
    · rw [lexG_end ha] at h; simp [nameOf] at h
  · intro h
    cases l with
    | nil => cases h
    | cons c r =>
      unfold nameL at h
      simp only [Bool.and_eq_true, List.all_eq_true] at h
      obtain ⟨hd, hb⟩ := letB_not h.1
      have h0 : runL blkB (c :: r) 0 = 0 := runL_stop (by simp) (by simpa using hb)
      have ht : (c :: r).takeWhile nameB = c :: r := all_takeWhile fun x hx => by
        rcases List.mem_cons.1 hx with rfl | hx
        · unfold nameB; rw [h.1]; rfl
        · exact h.2 x hx
      have htk : tokL ((c :: r).drop 0) = some (2, c :: r) := by
        rw [List.drop_zero]
        rw [tokL_cons, hd, h.1, ht]
        rfl
      unfold lexR
      rw [h0, lexG_step (by simp) htk, runL_end (by simp)]
      have hl : (c :: r).length = r.length + 1 := rfl
      conv => lhs; arg 2; arg 2; rw [hl]
      rw [lexG_end (by simp)]
      simp [nameOf]
def wordsL : List (List UInt8) := [[108, 101, 116], [108, 111, 97, 100], [115, 116, 111, 114, 101], [97, 115, 121, 110, 99], [102, 105, 110, 105, 115, 104], [105, 102], [101, 108, 115, 101], [102, 111, 114], [116, 111]]
def keptB (s : ByteArray) : Bool := wordsL.any fun x => s.toList == x
def knameB (s : ByteArray) : Bool := nameL s.data.toList && !keptB s
end Go.Proofs.YtijahadmaggncaaDoor
