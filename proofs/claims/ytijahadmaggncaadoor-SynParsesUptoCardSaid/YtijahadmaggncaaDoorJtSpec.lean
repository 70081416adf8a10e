/- A text's tokens, byte by byte: the same as token by token. -/
import Derived.Test.YtijahadmaggncaaDoorJnSpec
namespace Go.Proofs.YtijahadmaggncaaDoor
set_option linter.unusedVariables false
/-- what a byte is: a blank, a digit, a letter, a sign; or nothing -/
def jcN (c : UInt8) : Nat := if blkB c then 0 else if digB c then 1 else if letB c then 2 else if sgnB c then 3 else 4
def jnumT (t : LTok) : Bool := !decide (t.kind = 1) || numJ t.text
/-- does a byte go on with what is open? -/
def jmore (t : LTok) (c : UInt8) : Bool := (decide (t.kind = 1) && decide (jcN c = 1)) || (decide (t.kind = 2) && (decide (jcN c = 1) || decide (jcN c = 2))) || ((t.text == [61]) && decide (c.toNat = 61))
def jadd (t : LTok) (c : UInt8) : LTok := { t with text := t.text ++ [c] }
def jG : List UInt8 → Nat → List LTok → Option LTok → List LTok × Nat × Int
  | [], _, out, none => (out, 0, 0)
  | [], _, out, some t => if jnumT t then (out ++ [t], 0, 0) else ([], t.pos, 1)
  | c :: r, i, out, none => if jcN c = 4 then ([], i, 1) else if jcN c = 0 then jG r (i + 1) out none else jG r (i + 1) out (some ⟨(jcN c : Nat), i, [c]⟩)
  | c :: r, i, out, some t =>
    if jcN c = 4 then (if jnumT t then ([], i, 1) else ([], t.pos, 1))
    else if jmore t c then (if (jadd t c).text == [61, 61] then jG r (i + 1) (out ++ [jadd t c]) none else jG r (i + 1) out (some (jadd t c)))
    else if jnumT t then (if jcN c = 0 then jG r (i + 1) (out ++ [t]) none else jG r (i + 1) (out ++ [t]) (some ⟨(jcN c : Nat), i, [c]⟩))
    else ([], t.pos, 1)
theorem jG_nil_none (i : Nat) (out : List LTok) : jG [] i out none = (out, 0, 0) := by rw [jG]
theorem jG_nil_some (i : Nat) (out : List LTok) (t : LTok) : jG [] i out (some t) = if jnumT t then (out ++ [t], 0, 0) else ([], t.pos, 1) := by rw [jG]
theorem jG_none (c : UInt8) (r : List UInt8) (i : Nat) (out : List LTok) : jG (c :: r) i out none = if jcN c = 4 then ([], i, 1) else if jcN c = 0 then jG r (i + 1) out none else jG r (i + 1) out (some ⟨(jcN c : Nat), i, [c]⟩) := by rw [jG]
theorem jG_some (c : UInt8) (r : List UInt8) (i : Nat) (out : List LTok) (t : LTok) : jG (c :: r) i out (some t) =
    if jcN c = 4 then (if jnumT t then ([], i, 1) else ([], t.pos, 1))
    else if jmore t c then (if (jadd t c).text == [61, 61] then jG r (i + 1) (out ++ [jadd t c]) none else jG r (i + 1) out (some (jadd t c)))
    else if jnumT t then (if jcN c = 0 then jG r (i + 1) (out ++ [t]) none else jG r (i + 1) (out ++ [t]) (some ⟨(jcN c : Nat), i, [c]⟩))
    else ([], t.pos, 1) := by rw [jG]
theorem takeWhile_mem (p : UInt8 → Bool) : ∀ (l : List UInt8) (x : UInt8), x ∈ l.takeWhile p → p x = true := by
  intro l
  induction l with
  | nil => intro x hx; cases hx
  | cons c r ih =>
    intro x hx
    rw [List.takeWhile_cons] at hx
    split at hx
    · rename_i hc
      rcases List.mem_cons.1 hx with rfl | hx
      · exact hc
      · exact ih x hx
    · cases hx
theorem digB_61 {c : UInt8} (h : digB c = true) : c ≠ 61 ∧ c.toNat ≠ 61 := by
  simp only [digB, Bool.and_eq_true, decide_eq_true_eq] at h
  refine ⟨fun e => ?_, by omega⟩
  subst e
  exact absurd h.2 (by decide)
theorem jc_dig {c : UInt8} (h : digB c = true) : jcN c = 1 := by
  have hb : blkB c = false := by
    simp only [digB, Bool.and_eq_true, decide_eq_true_eq] at h
    unfold blkB
    rw [decide_eq_false (by omega), decide_eq_false (by omega), decide_eq_false (by omega)]; rfl
  unfold jcN
  rw [hb, h]; rfl
theorem jc_let {c : UInt8} (h : letB c = true) : jcN c = 2 := by
  obtain ⟨h1, h2⟩ := letB_not h
  unfold jcN
  rw [h2, h1, h]; rfl
theorem jc_blk {c : UInt8} (h : blkB c = true) : jcN c = 0 := by
  unfold jcN
  rw [h]; rfl
theorem jc_sgn {c : UInt8} (h0 : blkB c = false) (h1 : digB c = false) (h2 : letB c = false) : jcN c = if sgnB c then 3 else 4 := by
  unfold jcN
  rw [h0, h1, h2]; rfl
theorem jc_one {c : UInt8} : jcN c = 1 ↔ digB c = true := by
  constructor
  · intro h
    unfold jcN at h
    cases h0 : blkB c <;> cases h1 : digB c <;> cases h2 : letB c <;> cases h3 : sgnB c <;> simp [h0, h1, h2, h3] at h ⊢
  · exact jc_dig
theorem jc_two {c : UInt8} (h : jcN c = 2) : letB c = true := by
  unfold jcN at h
  cases h0 : blkB c <;> cases h1 : digB c <;> cases h2 : letB c <;> cases h3 : sgnB c <;> simp [h0, h1, h2, h3] at h ⊢
theorem name_iff {c : UInt8} : nameB c = true ↔ (jcN c = 1 ∨ jcN c = 2) := by
  unfold nameB
  rw [Bool.or_eq_true]
  constructor
  · rintro (h | h)
    · exact .inr (jc_let h)
    · exact .inl (jc_dig h)
  · rintro (h | h)
    · exact .inr (jc_one.1 h)
    · exact .inl (jc_two h)
/-- where nothing goes on, what is open is closed first -/
theorem jG_close (r : List UInt8) (i : Nat) (out : List LTok) (t : LTok) (hr : ∀ c r', r = c :: r' → jmore t c = false) : jG r i out (some t) = if jnumT t then jG r i (out ++ [t]) none else ([], t.pos, 1) := by
  cases r with
  | nil => rw [jG_nil_some, jG_nil_none]
  | cons c r =>
    rw [jG_some, jG_none, hr c r rfl]
    by_cases h4 : jcN c = 4
    · rw [if_pos h4, if_pos h4]
    · rw [if_neg h4, if_neg h4, if_neg (by simp)]
theorem jG_dig (p : Nat) : ∀ (r s : List UInt8) (i : Nat) (out : List LTok), (∀ c ∈ s, digB c = true) → jG r i out (some ⟨1, p, s⟩) = if numJ (s ++ r.takeWhile digB) then jG (r.drop (r.takeWhile digB).length) (i + (r.takeWhile digB).length) (out ++ [⟨1, p, s ++ r.takeWhile digB⟩]) none else ([], p, 1) := by
  intro r
  induction r with
  | nil =>
    intro s i out hs
    rw [jG_nil_some]
    simp only [List.takeWhile_nil, List.append_nil, List.length_nil, List.drop_nil, Nat.add_zero, jG_nil_none]
    rfl
  | cons c r ih =>
    intro s i out hs
    have hne : ∀ d : Nat, ((s == [61]) && decide (d = 61)) = false := fun d => by
      rw [Bool.and_eq_false_iff, beq_eq_false_iff_ne]
      refine .inl fun e => ?_
      exact (digB_61 (hs 61 (by rw [e]; simp))).1 rfl
    by_cases hd : digB c = true
    · have hk := jc_dig hd
      have hmore : jmore ⟨1, p, s⟩ c = true := by unfold jmore; rw [hk]; rfl
      have hsc : ∀ x ∈ s ++ [c], digB x = true := fun x hx => by
        rcases List.mem_append.1 hx with h | h
        · exact hs x h
        · rw [List.mem_singleton.1 h]; exact hd
      have h61 : ((jadd ⟨1, p, s⟩ c).text == [61, 61]) = false := by
        rw [beq_eq_false_iff_ne]
        intro e
        exact (digB_61 (hsc 61 (by rw [show s ++ [c] = [61, 61] from e]; simp))).1 rfl
      rw [jG_some, if_neg (by rw [hk]; decide), if_pos hmore, h61, List.takeWhile_cons, if_pos hd]
      have := ih (s ++ [c]) (i + 1) out hsc
      rw [if_neg (by simp)]
      rw [show jadd ⟨1, p, s⟩ c = ⟨1, p, s ++ [c]⟩ from rfl, this, List.append_assoc, List.singleton_append, List.length_cons, List.drop_succ_cons, show i + 1 + (r.takeWhile digB).length = i + ((r.takeWhile digB).length + 1) by omega]
    · have hmore : jmore ⟨1, p, s⟩ c = false := by
        unfold jmore
        have hk : ¬ jcN c = 1 := fun e => hd (jc_one.1 e)
        simp only [decide_eq_false hk, Bool.and_false, Bool.false_or, hne]
        rfl
      rw [jG_close _ _ _ _ (fun c' r' e => by injection e with e1 e2; subst e1; exact hmore), List.takeWhile_cons, if_neg hd]
      simp only [List.append_nil, List.length_nil, List.drop_zero, Nat.add_zero]
      rfl
theorem jG_name (p : Nat) : ∀ (r s : List UInt8) (i : Nat) (out : List LTok), (∀ c ∈ s, nameB c = true) → jG r i out (some ⟨2, p, s⟩) = jG (r.drop (r.takeWhile nameB).length) (i + (r.takeWhile nameB).length) (out ++ [⟨2, p, s ++ r.takeWhile nameB⟩]) none := by
  intro r
  induction r with
  | nil =>
    intro s i out hs
    rw [jG_nil_some]
    simp only [List.takeWhile_nil, List.append_nil, List.length_nil, List.drop_nil, Nat.add_zero, jG_nil_none]
    rfl
  | cons c r ih =>
    intro s i out hs
    have n61 : nameB 61 = false := by decide
    have hne : ∀ d : Nat, ((s == [61]) && decide (d = 61)) = false := fun d => by
      rw [Bool.and_eq_false_iff, beq_eq_false_iff_ne]
      refine .inl fun e => ?_
      have := hs 61 (by rw [e]; simp)
      rw [n61] at this; cases this
    by_cases hd : nameB c = true
    · have hk := name_iff.1 hd
      have hmore : jmore ⟨2, p, s⟩ c = true := by
        unfold jmore
        rcases hk with hk | hk <;> rw [hk] <;> rfl
      have hsc : ∀ x ∈ s ++ [c], nameB x = true := fun x hx => by
        rcases List.mem_append.1 hx with h | h
        · exact hs x h
        · rw [List.mem_singleton.1 h]; exact hd
      have h61 : ((jadd ⟨2, p, s⟩ c).text == [61, 61]) = false := by
        rw [beq_eq_false_iff_ne]
        intro e
        have := hsc 61 (by rw [show s ++ [c] = [61, 61] from e]; simp)
        rw [n61] at this; cases this
      rw [jG_some, if_neg (by omega), if_pos hmore, h61, List.takeWhile_cons, if_pos hd]
      have := ih (s ++ [c]) (i + 1) out hsc
      rw [if_neg (by simp)]
      rw [show jadd ⟨2, p, s⟩ c = ⟨2, p, s ++ [c]⟩ from rfl, this, List.append_assoc, List.singleton_append, List.length_cons, List.drop_succ_cons, show i + 1 + (r.takeWhile nameB).length = i + ((r.takeWhile nameB).length + 1) by omega]
    · have hmore : jmore ⟨2, p, s⟩ c = false := by
        unfold jmore
        have hk : ¬ jcN c = 1 := fun e => hd (name_iff.2 (.inl e))
        have hk2 : ¬ jcN c = 2 := fun e => hd (name_iff.2 (.inr e))
        simp only [decide_eq_false hk, decide_eq_false hk2, Bool.and_false, Bool.or_false, hne]
      rw [jG_close _ _ _ _ (fun c' r' e => by injection e with e1 e2; subst e1; exact hmore), List.takeWhile_cons, if_neg hd, if_pos (by rfl)]
      simp only [List.append_nil, List.length_nil, List.drop_zero, Nat.add_zero]
theorem jG_lex (l : List UInt8) (m : Nat) : ∀ (a n : Nat) (out : List LTok), l.length - a ≤ m → l.length - a < n → jG (l.drop a) a out none = lexG l n (runL blkB l a) out := by
  induction m with
  | zero =>
    intro a n out hm hn
    have ha : l.length ≤ a := by omega
    obtain ⟨n, rfl⟩ : ∃ k, n = k + 1 := ⟨n - 1, by omega⟩
    rw [List.drop_eq_nil_of_le ha, jG_nil_none, runL_end ha, lexG_end ha]
  | succ m ih =>
    intro a n out hm hn
    rcases Nat.lt_or_ge a l.length with ha | ha
    · obtain ⟨n, rfl⟩ : ∃ k, n = k + 1 := ⟨n - 1, by omega⟩
      have hdr := List.drop_eq_getElem_cons ha
      obtain ⟨c, hc⟩ : ∃ c, c = l[a] := ⟨_, rfl⟩
      rw [← hc] at hdr
      by_cases hb : blkB c = true
      · rw [hdr, jG_none, if_neg (by rw [jc_blk hb]; decide), if_pos (jc_blk hb), runL_step ha (by rw [← hc]; exact hb)]
        exact ih (a + 1) (n + 1) out (by omega) (by omega)
      · have hb : blkB c = false := by simpa using hb
        rw [runL_stop ha (by rw [← hc]; exact hb)]
        have key : ∀ (k : Int) (t : List UInt8), tokL (l.drop a) = some (k, t) → jG (l.drop (a + t.length)) (a + t.length) (out ++ [⟨k, a, t⟩]) none = lexG l (n + 1) a out := fun k t e => by
          obtain ⟨e1, e2, e3, e4⟩ := tokL_some e
          rw [List.length_drop] at e3
          rw [lexG_step ha e]
          exact ih (a + t.length) n _ (by omega) (by omega)
        by_cases hd : digB c = true
        · have htok : tokL (l.drop a) = if numS ⟨((c :: l.drop (a + 1)).takeWhile digB).toArray⟩ then some (1, (c :: l.drop (a + 1)).takeWhile digB) else none := by rw [hdr, tokL_cons, if_pos hd]
          have htw : (c :: l.drop (a + 1)).takeWhile digB = c :: (l.drop (a + 1)).takeWhile digB := by rw [List.takeWhile_cons, if_pos hd]
          rw [htw] at htok
          have hall : ∀ x ∈ c :: (l.drop (a + 1)).takeWhile digB, digB x = true := fun x hx => by
            rw [← htw] at hx
            exact takeWhile_mem digB _ x hx
          have hnum := numJ_eq _ (by simp) hall
          rw [hdr, jG_none, if_neg (by rw [jc_dig hd]; decide), if_neg (by rw [jc_dig hd]; decide), jc_dig hd]
          rw [show (⟨((1 : Nat) : Int), a, [c]⟩ : LTok) = ⟨1, a, [c]⟩ from rfl, jG_dig a _ _ _ _ (fun x hx => by rw [List.mem_singleton.1 hx]; exact hd), List.singleton_append, hnum]
          by_cases hn : numS ⟨(c :: (l.drop (a + 1)).takeWhile digB).toArray⟩ = true
          · rw [if_pos hn] at htok ⊢
            rw [← key _ _ htok, List.drop_drop, List.length_cons, show a + 1 + ((l.drop (a + 1)).takeWhile digB).length = a + (((l.drop (a + 1)).takeWhile digB).length + 1) by omega]
          · rw [if_neg hn] at htok ⊢
            rw [lexG_bad ha htok]
        · have hd : digB c = false := by simpa using hd
          by_cases hl : letB c = true
          · have htw : (c :: l.drop (a + 1)).takeWhile nameB = c :: (l.drop (a + 1)).takeWhile nameB := by rw [List.takeWhile_cons, if_pos (by unfold nameB; rw [hl]; rfl)]
            have htok : tokL (l.drop a) = some (2, c :: (l.drop (a + 1)).takeWhile nameB) := by rw [hdr, tokL_cons, if_neg (by rw [hd]; simp), if_pos hl, htw]
            rw [hdr, jG_none, if_neg (by rw [jc_let hl]; decide), if_neg (by rw [jc_let hl]; decide), jc_let hl]
            rw [show (⟨((2 : Nat) : Int), a, [c]⟩ : LTok) = ⟨2, a, [c]⟩ from rfl, jG_name a _ _ _ _ (fun x hx => by rw [List.mem_singleton.1 hx]; unfold nameB; rw [hl]; rfl), List.singleton_append]
            rw [← key _ _ htok, List.drop_drop, List.length_cons, show a + 1 + ((l.drop (a + 1)).takeWhile nameB).length = a + (((l.drop (a + 1)).takeWhile nameB).length + 1) by omega]
          · have hl : letB c = false := by simpa using hl
            have hjc := jc_sgn hb hd hl
            by_cases hs : sgnB c = true
            · rw [if_pos hs] at hjc
              rw [hdr, jG_none, if_neg (by rw [hjc]; decide), if_neg (by rw [hjc]; decide), hjc]
              by_cases hp : Lib.hasPrefix (c :: l.drop (a + 1)) [61, 61] = true
              · have htok : tokL (l.drop a) = some (3, [61, 61]) := by rw [hdr, tokL_cons, if_neg (by rw [hd]; simp), if_neg (by rw [hl]; simp), if_pos hp]
                unfold Lib.hasPrefix at hp
                obtain ⟨u, hu⟩ := List.isPrefixOf_iff_prefix.1 hp
                have hc2 : c = 61 := by injection hu with h1 h2; exact h1.symm
                have hr2 : l.drop (a + 1) = 61 :: u := by injection hu with h1 h2; exact h2.symm
                have hu2 : u = l.drop (a + 2) := by
                  have := congrArg (List.drop 1) hr2
                  rw [List.drop_drop] at this
                  exact this.symm
                have hk61 : jcN 61 = 3 := by decide
                rw [← key _ _ htok, hr2, hc2, jG_some, if_neg (by rw [hk61]; decide), if_pos (by rfl), if_pos (by rfl), hu2]
                rfl
              · have htok : tokL (l.drop a) = some (3, [c]) := by rw [hdr, tokL_cons, if_neg (by rw [hd]; simp), if_neg (by rw [hl]; simp), if_neg hp, if_pos hs]
                rw [← key _ _ htok, jG_close, if_pos (by rfl)]
                · rfl
                · intro d r' e
                  unfold jmore
                  simp only [Bool.or_eq_false_iff]
                  refine ⟨⟨rfl, rfl⟩, ?_⟩
                  rw [Bool.and_eq_false_iff]
                  by_cases hc61 : c = 61
                  · refine .inr (decide_eq_false fun h61 => hp ?_)
                    have hd61 : d = 61 := UInt8.toNat_inj.1 h61
                    rw [hc61, e, hd61]
                    simp [Lib.hasPrefix]
                  · refine .inl ?_
                    rw [beq_eq_false_iff_ne]
                    intro e2
                    exact hc61 (List.cons.inj e2).1
            · have hs : sgnB c = false := by simpa using hs
              have hne : c ≠ 61 := fun e => by subst e; revert hs; decide
              have htok : tokL (l.drop a) = none := by
                rw [hdr, tokL_cons, if_neg (by rw [hd]; simp), if_neg (by rw [hl]; simp), if_neg, if_neg (by rw [hs]; simp)]
                intro hp
                unfold Lib.hasPrefix at hp
                obtain ⟨u, hu⟩ := List.isPrefixOf_iff_prefix.1 hp
                injection hu with h1 h2
                exact hne h1.symm
              rw [hs] at hjc
              rw [lexG_bad ha htok, hdr, jG_none, if_pos (by rw [hjc]; rfl)]
    · obtain ⟨n, rfl⟩ : ∃ k, n = k + 1 := ⟨n - 1, by omega⟩
      rw [List.drop_eq_nil_of_le ha, jG_nil_none, runL_end ha, lexG_end ha]
theorem jG_eq (l : List UInt8) : jG l 0 [] none = lexR l := by
  have := jG_lex l l.length 0 (l.length + 1) [] (by omega) (by omega)
  rw [List.drop_zero] at this
  exact this
end Go.Proofs.YtijahadmaggncaaDoor
