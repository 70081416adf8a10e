/- Programs' texts as a plain grammar: what syn.Parse reads, token by token. -/
import Derived.Test.YtijahadmaggncaaDoorLexSpec
import Derived.Test.YtijahadmaggncaaDoorGTwo
import Derived.Test.YtijahadmaggncaaDoorGOwnTw
import Derived.Test.YtijahadmaggncaaDoorJnSpec
namespace Go.Proofs.YtijahadmaggncaaDoor
set_option linter.unusedVariables false
abbrev LTok.str (t : LTok) : Str := ⟨t.text.toArray⟩
abbrev bz (l : List UInt8) : Str := ⟨l.toArray⟩
/-- what reading comes to: something and what is left, or the place where it ends -/
inductive PR (α : Type) where
  | ok (x : α) (r : List LTok)
  | no (r : List LTok)
/-- 'none': not told -/
abbrev PO (α : Type) := Option (PR α)
def PO.bind {α β : Type} (m : PO α) (f : α → List LTok → PO β) : PO β :=
  match m with
  | none => none
  | some (.no r) => some (.no r)
  | some (.ok a r) => f a r
theorem PO.bind_ok {α β : Type} {a : α} {r : List LTok} {f : α → List LTok → PO β} : PO.bind (some (.ok a r)) f = f a r := rfl
theorem PO.bind_no {α β : Type} {r : List LTok} {f : α → List LTok → PO β} : PO.bind (some (.no r)) f = some (.no r) := rfl
/-- a told reading's first part is told -/
theorem PO.bind_some {α β : Type} {m : PO α} {f : α → List LTok → PO β} {o : PR β} (h : PO.bind m f = some o) : (∃ r, m = some (.no r) ∧ o = .no r) ∨ (∃ a r, m = some (.ok a r) ∧ f a r = some o) := by
  match m, h with
  | some (.no r), h => exact .inl ⟨r, rfl, (Option.some.inj h).symm⟩
  | some (.ok a r), h => exact .inr ⟨a, r, rfl, h⟩
/-- the next word -/
def isT (s : Str) : List LTok → Bool
  | [] => false
  | t :: _ => t.str.toList == s.toList
def anyG : List Str → List LTok → Str
  | [], _ => ⟨#[]⟩
  | s :: l, ts => if isT s ts then s else anyG l ts
def wantG : List Str → List LTok → PR Unit
  | [], ts => .ok () ts
  | s :: l, ts => if isT s ts then wantG l ts.tail else .no ts
def nameG : List LTok → PR Str
  | [] => .no []
  | t :: r => if t.kind = 2 ∧ keptB t.str = false then .ok t.str r else .no (t :: r)
def lvlS : Nat → List Str
  | 0 => [bz [60], bz [61, 61]]
  | 1 => [bz [43], bz [45]]
  | _ => [bz [42], bz [47], bz [37]]
/-- what a sign between two is -/
def signK (s : Str) : Int :=
  if s.toList == [43] then 3 else if s.toList == [45] then 4 else if s.toList == [42] then 5 else if s.toList == [47] then 6 else if s.toList == [37] then 7 else if s.toList == [60] then 8 else 9
def twoX (s : Str) (a b : Ex) : Ex := .mk (signK s) 0 ⟨#[]⟩ [a, b]
def numX (t : LTok) : Ex := .mk 1 (vA 0 t.text : Nat) ⟨#[]⟩ []
inductive Mo where
  | ex (lvl : Nat)
  | row (lvl : Nat) (a : Ex)
def atomG (ex0 : List LTok → PO Ex) (ts : List LTok) : PO Ex :=
  if isT (bz [40]) ts then PO.bind (ex0 ts.tail) fun a r => PO.bind (some (wantG [bz [41]] r)) fun _ r => some (.ok a r)
  else match ts with
    | [] => some (.no [])
    | t :: r => if t.kind = 1 then some (.ok (numX t) r) else PO.bind (some (nameG (t :: r))) fun s r => some (.ok (.mk 2 0 s []) r)
def rowG (nx : List LTok → PO Ex) (rw_ : Ex → List LTok → PO Ex) (lvl : Nat) (a : Ex) (ts : List LTok) : PO Ex :=
  if anyG (lvlS lvl) ts = ⟨#[]⟩ then some (.ok a ts)
  else PO.bind (nx ts.tail) fun b r => if lvl = 0 then some (.ok (twoX (anyG (lvlS lvl) ts) a b) r) else rw_ (twoX (anyG (lvlS lvl) ts) a b) r
def exG : Nat → Mo → List LTok → PO Ex
  | 0, _, _ => none
  | n + 1, .ex lvl, ts =>
    if lvl < 3 then PO.bind (exG n (.ex (lvl + 1)) ts) fun a r => exG n (.row lvl a) r
    else atomG (exG n (.ex 0)) ts
  | n + 1, .row lvl a, ts => rowG (exG n (.ex (lvl + 1))) (fun a r => exG n (.row lvl a) r) lvl a ts
theorem exG_ex {n lvl : Nat} {ts : List LTok} (h : lvl < 3) : exG (n + 1) (.ex lvl) ts = PO.bind (exG n (.ex (lvl + 1)) ts) fun a r => exG n (.row lvl a) r := by rw [exG, if_pos h]
theorem exG_atom {n : Nat} {ts : List LTok} : exG (n + 1) (.ex 3) ts = atomG (exG n (.ex 0)) ts := by rw [exG, if_neg (by decide)]
theorem exG_open {n : Nat} {ts : List LTok} (h : isT (bz [40]) ts = true) : exG (n + 1) (.ex 3) ts = PO.bind (exG n (.ex 0) ts.tail) fun a r => PO.bind (some (wantG [bz [41]] r)) fun _ r => some (.ok a r) := by
  rw [exG_atom]; unfold atomG; rw [if_pos h]
theorem exG_nil {n : Nat} : exG (n + 1) (.ex 3) [] = some (.no []) := by rw [exG_atom]; rfl
theorem exG_num {n : Nat} {t : LTok} {r : List LTok} (h : isT (bz [40]) (t :: r) = false) (h1 : t.kind = 1) : exG (n + 1) (.ex 3) (t :: r) = some (.ok (numX t) r) := by
  rw [exG_atom]; unfold atomG; rw [h]; simp [h1]
theorem exG_name {n : Nat} {t : LTok} {r : List LTok} (h : isT (bz [40]) (t :: r) = false) (h1 : ¬ t.kind = 1) : exG (n + 1) (.ex 3) (t :: r) = PO.bind (some (nameG (t :: r))) fun s r => some (.ok (.mk 2 0 s []) r) := by
  rw [exG_atom]; unfold atomG; rw [h]; simp [h1]
theorem exG_stop {n lvl : Nat} {a : Ex} {ts : List LTok} (h : anyG (lvlS lvl) ts = ⟨#[]⟩) : exG (n + 1) (.row lvl a) ts = some (.ok a ts) := by rw [exG]; unfold rowG; rw [if_pos h]
theorem exG_row {n lvl : Nat} {a : Ex} {ts : List LTok} (h : ¬ anyG (lvlS lvl) ts = ⟨#[]⟩) : exG (n + 1) (.row lvl a) ts = PO.bind (exG n (.ex (lvl + 1)) ts.tail) fun b r => if lvl = 0 then some (.ok (twoX (anyG (lvlS lvl) ts) a b) r) else exG n (.row lvl (twoX (anyG (lvlS lvl) ts) a b)) r := by rw [exG]; unfold rowG; rw [if_neg h]
/-- the words that statements begin with, but for 'else' and 'to' -/
def begS : List Str := [bz [108, 101, 116], bz [108, 111, 97, 100], bz [115, 116, 111, 114, 101], bz [97, 115, 121, 110, 99], bz [102, 105, 110, 105, 115, 104], bz [105, 102], bz [102, 111, 114]]
def noX : Ex := .mk 0 0 ⟨#[]⟩ []
def noSt : St := .mk 0 ⟨#[]⟩ noX noX [] []
def blockG (sts : List LTok → PO (List St)) (ts : List LTok) : PO (List St) :=
  PO.bind (some (wantG [bz [123]] ts)) fun _ r => PO.bind (sts r) fun l r => PO.bind (some (wantG [bz [125]] r)) fun _ r => some (.ok l r)
/-- the parts of forms: words, names, expressions, blocks -/
inductive Pt' where
  | w (s : Str)
  | n
  | a
  | b
  | B
def formsP : List (Int × List Pt') := [
  (1, [.w (bz [108, 101, 116]), .n, .w (bz [61]), .a, .w (bz [59])]),
  (2, [.w (bz [108, 111, 97, 100]), .n, .w (bz [61]), .w (bz [91]), .a, .w (bz [93]), .w (bz [59])]),
  (3, [.w (bz [115, 116, 111, 114, 101]), .w (bz [91]), .a, .w (bz [93]), .w (bz [61]), .b, .w (bz [59])]),
  (4, [.w (bz [97, 115, 121, 110, 99]), .B]),
  (5, [.w (bz [102, 105, 110, 105, 115, 104]), .B]),
  (6, [.w (bz [105, 102]), .a, .B]),
  (7, [.w (bz [102, 111, 114]), .n, .w (bz [61]), .a, .w (bz [116, 111]), .b, .B])]
def St.setN (s : St) (x : Str) : St := match s with | .mk k _ a b l m => .mk k x a b l m
def St.setA (s : St) (x : Ex) : St := match s with | .mk k n _ b l m => .mk k n x b l m
def St.setB (s : St) (x : Ex) : St := match s with | .mk k n a _ l m => .mk k n a x l m
def St.setL (s : St) (x : List St) : St := match s with | .mk k n a b _ m => .mk k n a b x m
def St.setE (s : St) (x : List St) : St := match s with | .mk k n a b l _ => .mk k n a b l x
def St.setK (s : St) (x : Int) : St := match s with | .mk _ n a b l m => .mk x n a b l m
def partG (fu : Nat) (sts : List LTok → PO (List St)) (p : Pt') (s : St) (ts : List LTok) : PO St :=
  match p with
  | .w x => PO.bind (some (wantG [x] ts)) fun _ r => some (.ok s r)
  | .n => PO.bind (some (nameG ts)) fun x r => some (.ok (s.setN x) r)
  | .a => PO.bind (exG fu (.ex 0) ts) fun x r => some (.ok (s.setA x) r)
  | .b => PO.bind (exG fu (.ex 0) ts) fun x r => some (.ok (s.setB x) r)
  | .B => PO.bind (blockG sts ts) fun x r => some (.ok (s.setL x) r)
def formG (fu : Nat) (sts : List LTok → PO (List St)) : List Pt' → St → List LTok → PO St
  | [], s, ts => some (.ok s ts)
  | p :: ps, s, ts => PO.bind (partG fu sts p s ts) fun s r => formG fu sts ps s r
def elseG (sts : List LTok → PO (List St)) (s : St) (ts : List LTok) : PO St :=
  if isT (bz [101, 108, 115, 101]) ts then PO.bind (blockG sts ts.tail) fun x r => some (.ok (s.setE x) r) else some (.ok s ts)
def kindG (fu : Nat) (sts : List LTok → PO (List St)) (f : Int × List Pt') (ts : List LTok) : PO St :=
  PO.bind (formG fu sts f.2 noSt ts) fun s r => if f.1 = 6 then elseG sts (s.setK f.1) r else some (.ok (s.setK f.1) r)
def headP (f : Int × List Pt') : Str := match f.2 with | .w x :: _ => x | _ => ⟨#[]⟩
def stmtG (fu : Nat) (sts : List LTok → PO (List St)) (fs : List (Int × List Pt')) (ts : List LTok) : PO St :=
  match fs with
  | [] => some (.no ts)
  | f :: fs => if isT (headP f) ts then kindG fu sts f ts else stmtG fu sts fs ts
def stsG : Nat → List St → List LTok → PO (List St)
  | 0, _, _ => none
  | n + 1, acc, ts => if anyG begS ts = ⟨#[]⟩ then some (.ok acc ts) else PO.bind (stmtG n (stsG n []) formsP ts) fun s r => stsG n (acc ++ [s]) r
theorem stsG_stop {n : Nat} {acc : List St} {ts : List LTok} (h : anyG begS ts = ⟨#[]⟩) : stsG (n + 1) acc ts = some (.ok acc ts) := by rw [stsG, if_pos h]
theorem stsG_step {n : Nat} {acc : List St} {ts : List LTok} (h : ¬ anyG begS ts = ⟨#[]⟩) : stsG (n + 1) acc ts = PO.bind (stmtG n (stsG n []) formsP ts) fun s r => stsG n (acc ++ [s]) r := by rw [stsG, if_neg h]
/-- what a text is, as a program: from its tokens -/
def placeG (en : Int) : List LTok → Int
  | [] => en
  | t :: _ => t.pos
def progG (n : Nat) (en : Int) (ts : List LTok) : Option (List St × Int × Int) :=
  match stsG n [] ts with
  | none => none
  | some (.ok l []) => some (l, 0, 0)
  | some (.ok l (t :: r)) => some ([], t.pos, 1)
  | some (.no r) => some ([], placeG en r, 1)
/-! What is left is less; with enough fuel all is told. -/
theorem isT_ne {s : Str} {ts : List LTok} (h : isT s ts = true) : ∃ t r, ts = t :: r := by
  cases ts with
  | nil => simp [isT] at h
  | cons t r => exact ⟨t, r, rfl⟩
theorem anyG_ne {l : List Str} {ts : List LTok} (h : ¬ anyG l ts = ⟨#[]⟩) : ∃ t r, ts = t :: r := by
  cases ts with
  | cons t r => exact ⟨t, r, rfl⟩
  | nil =>
    exfalso
    induction l with
    | nil => exact h rfl
    | cons s l ih => simp only [anyG, isT, Bool.false_eq_true, if_false] at h; exact ih h
theorem wantG_len {l : List Str} : ∀ {ts r : List LTok} {u : Unit}, wantG l ts = .ok u r → r.length + l.length = ts.length := by
  induction l with
  | nil => intro ts r u h; simp only [wantG, PR.ok.injEq] at h; rw [h.2]; rfl
  | cons s l ih =>
    intro ts r u h
    rw [wantG] at h
    split at h
    · obtain ⟨t, q, rfl⟩ := isT_ne (by assumption)
      have := ih h
      simp only [List.tail_cons, List.length_cons] at this ⊢
      omega
    · cases h
theorem nameG_len {ts r : List LTok} {s : Str} (h : nameG ts = .ok s r) : r.length + 1 = ts.length := by
  cases ts with
  | nil => cases h
  | cons t q =>
    rw [nameG] at h
    split at h
    · simp only [PR.ok.injEq] at h; rw [h.2]; rfl
    · cases h
def moLen : Mo → Nat | .ex _ => 1 | .row _ _ => 0
theorem exG_len : ∀ (n : Nat) (m : Mo) (ts r : List LTok) (x : Ex), exG n m ts = some (.ok x r) → r.length + moLen m ≤ ts.length := by
  intro n
  induction n with
  | zero => intro m ts r x h; simp [exG] at h
  | succ n ih =>
    intro m ts r x h
    cases m with
    | ex lvl =>
      by_cases hl : lvl < 3
      · rw [exG_ex hl] at h
        rcases PO.bind_some h with ⟨_, _, h2⟩ | ⟨a, q, h1, h2⟩
        · cases h2
        · have := ih _ _ _ _ h1
          have := ih _ _ _ _ h2
          simp only [moLen] at *
          omega
      · have e : exG (n + 1) (.ex lvl) ts = exG (n + 1) (.ex 3) ts := by simp only [exG, if_neg hl]; rfl
        rw [e] at h
        cases ho : isT (bz [40]) ts with
        | true =>
          rw [exG_open ho] at h
          obtain ⟨t, q, rfl⟩ := isT_ne ho
          rcases PO.bind_some h with ⟨_, _, h2⟩ | ⟨a, q2, h1, h2⟩
          · cases h2
          · have := ih _ _ _ _ h1
            rcases PO.bind_some h2 with ⟨_, _, h4⟩ | ⟨u, q3, h3, h4⟩
            · cases h4
            · have := wantG_len (Option.some.inj h3)
              simp only [Option.some.injEq, PR.ok.injEq] at h4
              obtain ⟨_, rfl⟩ := h4
              simp only [moLen, List.tail_cons, List.length_cons, List.length_nil] at *
              omega
        | false =>
          cases ts with
          | nil => rw [exG_nil] at h; cases h
          | cons t q =>
            by_cases h1 : t.kind = 1
            · rw [exG_num ho h1] at h
              simp only [Option.some.injEq, PR.ok.injEq] at h
              rw [h.2]; simp [moLen]
            · rw [exG_name ho h1] at h
              rcases PO.bind_some h with ⟨_, _, h2⟩ | ⟨a, q2, h1, h2⟩
              · cases h2
              · have := nameG_len (Option.some.inj h1)
                simp only [Option.some.injEq, PR.ok.injEq] at h2
                obtain ⟨_, rfl⟩ := h2
                simp only [moLen]; omega
    | row lvl a =>
      by_cases ha : anyG (lvlS lvl) ts = ⟨#[]⟩
      · rw [exG_stop ha] at h
        simp only [Option.some.injEq, PR.ok.injEq] at h
        rw [h.2]; simp [moLen]
      · rw [exG_row ha] at h
        obtain ⟨t, q, rfl⟩ := anyG_ne ha
        rcases PO.bind_some h with ⟨_, _, h2⟩ | ⟨b, q2, h1, h2⟩
        · cases h2
        · have := ih _ _ _ _ h1
          split at h2
          · simp only [Option.some.injEq, PR.ok.injEq] at h2
            obtain ⟨_, rfl⟩ := h2
            simp only [moLen, List.tail_cons, List.length_cons] at *; omega
          · have := ih _ _ _ _ h2
            simp only [moLen, List.tail_cons, List.length_cons] at *; omega
theorem bind_told {α β : Type} {m : PO α} {f : α → List LTok → PO β} (h : m ≠ none) (k : ∀ a r, m = some (.ok a r) → f a r ≠ none) : PO.bind m f ≠ none := by
  match m, h, k with
  | some (.no r), h, k => simp [PO.bind]
  | some (.ok a r), h, k => exact k a r rfl
def moFuel : Mo → Nat | .ex lvl => 5 - lvl | .row _ _ => 1
theorem exG_told : ∀ (n : Nat) (m : Mo) (ts : List LTok), 5 * ts.length + moFuel m ≤ n → (∀ l, m = .ex l → l ≤ 3) → (∀ l a, m = .row l a → l ≤ 2) → exG n m ts ≠ none := by
  intro n
  induction n with
  | zero => intro m ts h h1 h2; cases m with
    | ex l => have := h1 l rfl; simp only [moFuel] at h; omega
    | row l a => simp [moFuel] at h
  | succ n ih =>
    intro m ts h hm1 hm2
    cases m with
    | ex lvl =>
      have hl3 := hm1 lvl rfl
      by_cases hl : lvl < 3
      · rw [exG_ex hl]
        refine bind_told (ih _ _ (by simp only [moFuel] at *; omega) (fun l e => by cases e; omega) (fun l a e => by cases e)) (fun a r h1 => ?_)
        have := exG_len _ _ _ _ _ h1
        exact ih _ _ (by simp only [moFuel, moLen] at *; omega) (fun l e => by cases e) (fun l a e => by cases e; omega)
      · obtain rfl : lvl = 3 := by omega
        cases ho : isT (bz [40]) ts with
        | true =>
          rw [exG_open ho]
          obtain ⟨t, q, rfl⟩ := isT_ne ho
          refine bind_told (ih _ _ (by simp only [moFuel, List.tail_cons, List.length_cons] at *; omega) (fun l e => by cases e; omega) (fun l a e => by cases e)) (fun a r h1 => ?_)
          exact bind_told (by simp) (fun a r h1 => by simp)
        | false =>
          cases ts with
          | nil => rw [exG_nil]; simp
          | cons t q =>
            by_cases h1 : t.kind = 1
            · rw [exG_num ho h1]; simp
            · rw [exG_name ho h1]; exact bind_told (by simp) (fun a r h1 => by simp)
    | row lvl a =>
      have hl2 := hm2 lvl a rfl
      by_cases ha : anyG (lvlS lvl) ts = ⟨#[]⟩
      · rw [exG_stop ha]; simp
      · rw [exG_row ha]
        obtain ⟨t, q, rfl⟩ := anyG_ne ha
        refine bind_told (ih _ _ (by simp only [moFuel, List.tail_cons, List.length_cons] at *; omega) (fun l e => by cases e; omega) (fun l a e => by cases e)) (fun b r h1 => ?_)
        have := exG_len _ _ _ _ _ h1
        split
        · simp
        · exact ih _ _ (by simp only [moFuel, moLen, List.tail_cons, List.length_cons] at *; omega) (fun l e => by cases e) (fun l a e => by cases e; omega)
theorem blockG_len {sts : List LTok → PO (List St)} (hs : ∀ ts l r, sts ts = some (.ok l r) → r.length ≤ ts.length) {ts r : List LTok} {l : List St} (h : blockG sts ts = some (.ok l r)) : r.length + 2 ≤ ts.length := by
  unfold blockG at h
  rcases PO.bind_some h with ⟨_, _, h2⟩ | ⟨u, q, h1, h2⟩
  · cases h2
  · have h3 := wantG_len (Option.some.inj h1)
    rcases PO.bind_some h2 with ⟨_, _, h4⟩ | ⟨x, q2, h5, h4⟩
    · cases h4
    · have h6 := hs _ _ _ h5
      rcases PO.bind_some h4 with ⟨_, _, h7⟩ | ⟨u2, q3, h8, h7⟩
      · cases h7
      · have h9 := wantG_len (Option.some.inj h8)
        simp only [Option.some.injEq, PR.ok.injEq] at h7
        obtain ⟨_, rfl⟩ := h7
        simp only [List.length_cons, List.length_nil] at *
        omega
theorem partG_len {fu : Nat} {sts : List LTok → PO (List St)} (hs : ∀ ts l r, sts ts = some (.ok l r) → r.length ≤ ts.length) {p : Pt'} {s s' : St} {ts r : List LTok} (h : partG fu sts p s ts = some (.ok s' r)) : r.length + 1 ≤ ts.length := by
  cases p <;> simp only [partG] at h <;> rcases PO.bind_some h with ⟨_, _, h2⟩ | ⟨u, q, h1, h2⟩ <;> first | (cases h2; done) | skip
  all_goals simp only [Option.some.injEq, PR.ok.injEq] at h2; obtain ⟨_, rfl⟩ := h2
  · have := wantG_len (Option.some.inj h1); simp only [List.length_cons, List.length_nil] at this; omega
  · have := nameG_len (Option.some.inj h1); omega
  · have := exG_len _ _ _ _ _ h1; simp only [moLen] at this; omega
  · have := exG_len _ _ _ _ _ h1; simp only [moLen] at this; omega
  · have := blockG_len hs h1; omega
theorem formG_len {fu : Nat} {sts : List LTok → PO (List St)} (hs : ∀ ts l r, sts ts = some (.ok l r) → r.length ≤ ts.length) : ∀ (ps : List Pt') {s s' : St} {ts r : List LTok}, formG fu sts ps s ts = some (.ok s' r) → r.length + ps.length ≤ ts.length := by
  intro ps
  induction ps with
  | nil => intro s s' ts r h; simp only [formG, Option.some.injEq, PR.ok.injEq] at h; rw [h.2]; simp
  | cons p ps ih =>
    intro s s' ts r h
    rw [formG] at h
    rcases PO.bind_some h with ⟨_, _, h2⟩ | ⟨u, q, h1, h2⟩
    · cases h2
    · have := partG_len hs h1
      have := ih h2
      simp only [List.length_cons]; omega
theorem kindG_len {fu : Nat} {sts : List LTok → PO (List St)} (hs : ∀ ts l r, sts ts = some (.ok l r) → r.length ≤ ts.length) {f : Int × List Pt'} (hf : 0 < f.2.length) {s' : St} {ts r : List LTok} (h : kindG fu sts f ts = some (.ok s' r)) : r.length + 1 ≤ ts.length := by
  unfold kindG at h
  rcases PO.bind_some h with ⟨_, _, h2⟩ | ⟨u, q, h1, h2⟩
  · cases h2
  · have h3 := formG_len hs _ h1
    split at h2
    · unfold elseG at h2
      split at h2
      · obtain ⟨t, q2, rfl⟩ := isT_ne (by assumption)
        rcases PO.bind_some h2 with ⟨_, _, h4⟩ | ⟨x, q3, h5, h4⟩
        · cases h4
        · have := blockG_len hs h5
          simp only [Option.some.injEq, PR.ok.injEq] at h4
          obtain ⟨_, rfl⟩ := h4
          simp only [List.tail_cons, List.length_cons] at *
          omega
      · simp only [Option.some.injEq, PR.ok.injEq] at h2
        rw [← h2.2]; omega
    · simp only [Option.some.injEq, PR.ok.injEq] at h2
      rw [← h2.2]; omega
theorem stmtG_len {fu : Nat} {sts : List LTok → PO (List St)} (hs : ∀ ts l r, sts ts = some (.ok l r) → r.length ≤ ts.length) {fs : List (Int × List Pt')} (hf : ∀ f ∈ fs, 0 < f.2.length) {s' : St} {ts r : List LTok} (h : stmtG fu sts fs ts = some (.ok s' r)) : r.length + 1 ≤ ts.length := by
  induction fs with
  | nil => cases h
  | cons f fs ih =>
    rw [stmtG] at h
    split at h
    · exact kindG_len hs (hf f (by simp)) h
    · exact ih (fun g hg => hf g (by simp [hg])) h
theorem forms_ne : ∀ f ∈ formsP, 0 < f.2.length := by decide
theorem stsG_len : ∀ (n : Nat) (acc : List St) (ts r : List LTok) (l : List St), stsG n acc ts = some (.ok l r) → r.length ≤ ts.length := by
  intro n
  induction n with
  | zero => intro acc ts r l h; cases h
  | succ n ih =>
    intro acc ts r l h
    by_cases ha : anyG begS ts = ⟨#[]⟩
    · rw [stsG_stop ha] at h
      simp only [Option.some.injEq, PR.ok.injEq] at h
      rw [h.2]; exact Nat.le_refl _
    · rw [stsG_step ha] at h
      rcases PO.bind_some h with ⟨_, _, h2⟩ | ⟨s, q, h1, h2⟩
      · cases h2
      · have := stmtG_len (fun ts l r h => ih [] ts r l h) forms_ne h1
        have := ih _ _ _ _ h2
        omega
theorem blockG_told {sts : List LTok → PO (List St)} {ts : List LTok} (hs : ∀ q, q.length + 1 ≤ ts.length → sts q ≠ none) : blockG sts ts ≠ none := by
  unfold blockG
  refine bind_told (by simp) (fun u r h => ?_)
  have h1 := wantG_len (Option.some.inj h)
  refine bind_told (hs _ (by simp only [List.length_cons, List.length_nil] at h1; omega)) (fun l r2 h2 => bind_told (by simp) (fun _ _ _ => by simp))
theorem partG_told {fu : Nat} {sts : List LTok → PO (List St)} {p : Pt'} {s : St} {ts : List LTok} (hs : ∀ q, q.length + 1 ≤ ts.length → sts q ≠ none) (he : 5 * ts.length + 5 ≤ fu) : partG fu sts p s ts ≠ none := by
  have hx : exG fu (.ex 0) ts ≠ none := exG_told _ _ _ (by simp only [moFuel]; omega) (fun l e => by cases e; omega) (fun l a e => by cases e)
  cases p <;> simp only [partG] <;> refine bind_told ?_ (fun _ _ _ => by simp)
  · simp
  · simp
  · exact hx
  · exact hx
  · exact blockG_told hs
theorem formG_told {fu : Nat} {sts : List LTok → PO (List St)} (hl : ∀ ts l r, sts ts = some (.ok l r) → r.length ≤ ts.length) {m : Nat} (hs : ∀ q, q.length + 1 ≤ m → sts q ≠ none) (he : 5 * m + 5 ≤ fu) : ∀ (ps : List Pt') (s : St) (ts : List LTok), ts.length ≤ m → formG fu sts ps s ts ≠ none := by
  intro ps
  induction ps with
  | nil => intro s ts h; simp [formG]
  | cons p ps ih =>
    intro s ts h
    rw [formG]
    refine bind_told (partG_told (fun q hq => hs q (by omega)) (by omega)) (fun s' r h1 => ?_)
    have := partG_len hl h1
    exact ih _ _ (by omega)
/-- the first part is a word -/
theorem formG_told' {fu : Nat} {sts : List LTok → PO (List St)} (hl : ∀ ts l r, sts ts = some (.ok l r) → r.length ≤ ts.length) {m : Nat} (hs : ∀ q, q.length + 1 ≤ m → sts q ≠ none) (he : 5 * m + 5 ≤ fu) (x : Str) (ps : List Pt') (s : St) (ts : List LTok) (h : ts.length ≤ m + 1) : formG fu sts (.w x :: ps) s ts ≠ none := by
  rw [formG]
  refine bind_told (by simp only [partG]; exact bind_told (by simp) (fun _ _ _ => by simp)) (fun s' r h1 => ?_)
  have := partG_len hl h1
  exact formG_told hl hs he _ _ _ (by omega)
theorem kindG_told {fu : Nat} {sts : List LTok → PO (List St)} (hl : ∀ ts l r, sts ts = some (.ok l r) → r.length ≤ ts.length) {m : Nat} (hs : ∀ q, q.length ≤ m → sts q ≠ none) (he : 5 * m + 5 ≤ fu) (k : Int) (x : Str) (ps : List Pt') (ts : List LTok) (h : ts.length ≤ m + 1) : kindG fu sts (k, .w x :: ps) ts ≠ none := by
  unfold kindG
  refine bind_told (formG_told' hl (fun q hq => hs q (by omega)) he _ _ _ _ h) (fun s' r h1 => ?_)
  have h2 := formG_len hl _ h1
  simp only [List.length_cons] at h2
  split
  · unfold elseG
    split
    · exact bind_told (blockG_told fun q hq => hs q (by rw [List.length_tail] at hq; omega)) (fun _ _ _ => by simp)
    · simp
  · simp
theorem forms_w : ∀ f ∈ formsP, ∃ k x ps, f = (k, .w x :: ps) := by
  intro f hf
  simp only [formsP, List.mem_cons, List.not_mem_nil, or_false] at hf
  rcases hf with rfl | rfl | rfl | rfl | rfl | rfl | rfl <;> exact ⟨_, _, _, rfl⟩
theorem stmtG_told {fu : Nat} {sts : List LTok → PO (List St)} (hl : ∀ ts l r, sts ts = some (.ok l r) → r.length ≤ ts.length) {m : Nat} (hs : ∀ q, q.length ≤ m → sts q ≠ none) (he : 5 * m + 5 ≤ fu) (fs : List (Int × List Pt')) (hf : ∀ f ∈ fs, ∃ k x ps, f = (k, .w x :: ps)) (ts : List LTok) (h : ts.length ≤ m + 1) : stmtG fu sts fs ts ≠ none := by
  induction fs with
  | nil => simp [stmtG]
  | cons f fs ih =>
    rw [stmtG]
    split
    · obtain ⟨k, x, ps, rfl⟩ := hf f (by simp)
      exact kindG_told hl hs he k x ps ts h
    · exact ih (fun g hg => hf g (by simp [hg]))
theorem stsG_told : ∀ (n : Nat) (acc : List St) (ts : List LTok), 6 * ts.length + 1 ≤ n → stsG n acc ts ≠ none := by
  intro n
  induction n with
  | zero => intro acc ts h; omega
  | succ n ih =>
    intro acc ts h
    by_cases ha : anyG begS ts = ⟨#[]⟩
    · rw [stsG_stop ha]; simp
    · rw [stsG_step ha]
      obtain ⟨t, q, rfl⟩ := anyG_ne ha
      simp only [List.length_cons] at h
      refine bind_told (stmtG_told (fun ts l r h => stsG_len _ _ _ _ _ h) (m := q.length) (fun q2 hq => ih _ _ (by omega)) (by omega) _ forms_w _ (by simp)) (fun s r h1 => ?_)
      have := stmtG_len (fun ts l r h => stsG_len _ _ _ _ _ h) forms_ne h1
      simp only [List.length_cons] at this
      exact ih _ _ (by omega)
/-- what lex makes: its tokens are as tokL makes them -/
def lexOk (t : LTok) : Prop := ∃ l, tokL l = some (t.kind, t.text)
theorem lexG_ok (l : List UInt8) : ∀ (n a : Nat) (out : List LTok), (∀ t ∈ out, lexOk t) → ∀ t ∈ (lexG l n a out).1, lexOk t := by
  intro n
  induction n with
  | zero => intro a out h; exact h
  | succ n ih =>
    intro a out h
    rw [lexG]
    split
    · split
      · intro t ht; cases ht
      · rename_i k x hk
        refine ih _ _ (fun t ht => ?_)
        rcases List.mem_append.1 ht with h1 | h1
        · exact h t h1
        · rw [List.mem_singleton.1 h1]; exact ⟨_, hk⟩
    · exact h
theorem lexR_ok (l : List UInt8) : ∀ t ∈ (lexR l).1, lexOk t := lexG_ok l _ _ _ (fun t ht => by cases ht)
theorem of_takeW (p : UInt8 → Bool) : ∀ (l : List UInt8) (x : UInt8), x ∈ l.takeWhile p → p x = true
  | [], x, h => by cases h
  | c :: r, x, h => by
    rw [List.takeWhile_cons] at h
    split at h
    · rcases List.mem_cons.1 h with rfl | h
      · assumption
      · exact of_takeW p r x h
    · cases h
theorem lexOk.name {t : LTok} (h : lexOk t) (hk : t.kind = 2) : knameB t.str = !keptB t.str := by
  obtain ⟨l, h⟩ := h
  cases l with
  | nil => cases h
  | cons c r =>
    rw [tokL_cons] at h
    split at h
    · split at h
      · simp only [Option.some.injEq, Prod.mk.injEq] at h; omega
      · cases h
    · split at h
      · rename_i hc
        simp only [Option.some.injEq, Prod.mk.injEq] at h
        have e : t.text = c :: r.takeWhile nameB := by
          rw [← h.2, List.takeWhile_cons, if_pos (by unfold nameB; rw [hc]; rfl)]
        unfold knameB
        have h2 : nameL t.str.data.toList = true := by
          show nameL t.text = true
          rw [e]
          show (letB c && (r.takeWhile nameB).all nameB) = true
          rw [hc, Bool.true_and, List.all_eq_true]
          intro x hx
          exact of_takeW _ _ _ hx
        rw [h2, Bool.true_and]
      · split at h
        · simp only [Option.some.injEq, Prod.mk.injEq] at h; omega
        · split at h
          · simp only [Option.some.injEq, Prod.mk.injEq] at h; omega
          · cases h
theorem lexOk.num {t : LTok} (h : lexOk t) (hk : t.kind = 1) : t.text ≠ [] ∧ (∀ c ∈ t.text, digB c = true) ∧ numS ⟨t.text.toArray⟩ = true := by
  obtain ⟨l, h⟩ := h
  cases l with
  | nil => cases h
  | cons c r =>
    rw [tokL_cons] at h
    split at h
    · rename_i hc
      split at h
      · rename_i hn
        simp only [Option.some.injEq, Prod.mk.injEq] at h
        refine ⟨?_, ?_, by rw [← h.2]; exact hn⟩
        · rw [← h.2, List.takeWhile_cons, if_pos hc]; simp
        · rw [← h.2]; intro x hx; exact of_takeW _ _ _ hx
      · cases h
    · split at h
      · simp only [Option.some.injEq, Prod.mk.injEq] at h; omega
      · split at h
        · simp only [Option.some.injEq, Prod.mk.injEq] at h; omega
        · split at h
          · simp only [Option.some.injEq, Prod.mk.injEq] at h; omega
          · cases h
theorem lexOk.val {t : LTok} (h : lexOk t) (hk : t.kind = 1) : vA 0 t.text < 9223372036854775808 ∧ Lib.parseIntB 64 t.text = .ok (vA 0 t.text : Int) := by
  obtain ⟨h0, h1, h2⟩ := h.num hk
  have hj := numJ_eq t.text h0 h1
  rw [h2] at hj
  unfold numJ at hj
  rw [parseInt_dig t.text h0 h1] at hj ⊢
  split at hj
  · rename_i v hv
    by_cases hlt : vA 0 t.text < 9223372036854775808
    · exact ⟨hlt, by rw [if_pos hlt]⟩
    · rw [if_neg hlt] at hv; cases hv
  · cases hj
end Go.Proofs.YtijahadmaggncaaDoor
