/- Texts merged: JtSpec, Jn1, OwnSet, Jt1, Jt2, Kq10. -/
import Derived.Test.YtnpgpcnkdocknaaGreatDoorGPqSpec
import Derived.Test.YtnpgpcnkdocknaaGreatDoorGPq2
import Derived.Test.YtnpgpcnkdocknaaGreatDoorGKq5
import Derived.BigQuiet
import Derived.Test.YtnpgpcnkdocknaaGreatDoorGBlk
import Derived.Test.YtnpgpcnkdocknaaGreatDoorGAppZ
import Derived.Test.YtnpgpcnkdocknaaGreatDoorKq9
namespace Go.Proofs.YtnpgpcnkdocknaaGreatDoor
set_option linter.unusedVariables false
def jcN (c : UInt8) : Nat := if blkB c then 0 else if digB c then 1 else if letB c then 2 else if sgnB c then 3 else 4
def jnumT (t : LTok) : Bool := !decide (t.kind = 1) || numJ t.text
def jmore (t : LTok) (c : UInt8) : Bool := (decide (t.kind = 1) && decide (jcN c = 1)) || (decide (t.kind = 2) && (decide (jcN c = 1) || decide (jcN c = 2))) || ((t.text == [61]) && decide (c.toNat = 61))
def jadd (t : LTok) (c : UInt8) : LTok := { t with text := t.text ++ [c] }
def jG : List UInt8 → Nat → List LTok → Option LTok → List LTok × Nat × Int
 | [], _, out, none => (out, 0, 0)
 | [], _, out, some t => if jnumT t then (out ++ [t], 0, 0) else ([], t.pos, 1)
 | c :: r, i, out, none => if jcN c = 4 then ([], i, 1) else if jcN c = 0 then jG r (i + 1) out none else jG r (i + 1) out (some ⟨(jcN c : Nat), i, [c]⟩)
 | c :: r, i, out, some t =>
  if jcN c = 4 then (if jnumT t then ([], i, 1) else ([], t.pos, 1))
  else if jmore t c then (if (jadd t c).text == [61, 61] then jG r (i + 1) (out ++ [jadd t c]) none else jG r (i + 1) out (some (jadd t c)))
  else if jnumT t then (if jcN c = 0 then jG r (i + 1) (out ++ [t]) none else jG r (i + 1) (out ++ [t]) (some ⟨(jcN c : Nat), i, [c]⟩))
  else ([], t.pos, 1)
theorem jG_nil_none (i : Nat) (out : List LTok) : jG [] i out none = (out, 0, 0) := by rw [jG]
theorem jG_nil_some (i : Nat) (out : List LTok) (t : LTok) : jG [] i out (some t) = if jnumT t then (out ++ [t], 0, 0) else ([], t.pos, 1) := by rw [jG]
theorem jG_none (c : UInt8) (r : List UInt8) (i : Nat) (out : List LTok) : jG (c :: r) i out none = if jcN c = 4 then ([], i, 1) else if jcN c = 0 then jG r (i + 1) out none else jG r (i + 1) out (some ⟨(jcN c : Nat), i, [c]⟩) := by rw [jG]
theorem jG_some (c : UInt8) (r : List UInt8) (i : Nat) (out : List LTok) (t : LTok) : jG (c :: r) i out (some t) =
    if jcN c = 4 then (if jnumT t then ([], i, 1) else ([], t.pos, 1))
    else if jmore t c then (if (jadd t c).text == [61, 61] then jG r (i + 1) (out ++ [jadd t c]) none else jG r (i + 1) out (some (jadd t c)))
    else if jnumT t then (if jcN c = 0 then jG r (i + 1) (out ++ [t]) none else jG r (i + 1) (out ++ [t]) (some ⟨(jcN c : Nat), i, [c]⟩))
    else ([], t.pos, 1) := by rw [jG]
theorem takeWhile_mem (p : UInt8 → Bool) : ∀ (l : List UInt8) (x : UInt8), x ∈ l.takeWhile p → p x = true := by
 intro l
 induction l with
 | nil => intro x hx; cases hx
 | cons c r ih =>
  intro x hx
  rw [List.takeWhile_cons] at hx
  split at hx
  ·rename_i hc
   rcases List.mem_cons.1 hx with rfl | hx
   ·exact hc
   ·exact ih x hx
  ·cases hx
theorem digB_61 {c : UInt8} (h : digB c = true) : c ≠ 61 ∧ c.toNat ≠ 61 := by
 simp only [digB, Bool.and_eq_true, decide_eq_true_eq] at h
 refine ⟨fun e => ?_, by omega⟩
 subst e
 exact absurd h.2 (by decide)
theorem jc_dig {c : UInt8} (h : digB c = true) : jcN c = 1 := by
 have hb : blkB c = false := by
  simp only [digB, Bool.and_eq_true, decide_eq_true_eq] at h
  unfold blkB
  rw [decide_eq_false (by omega), decide_eq_false (by omega), decide_eq_false (by omega)]; rfl
 unfold jcN
 rw [hb, h]; rfl
theorem jc_let {c : UInt8} (h : letB c = true) : jcN c = 2 := by
 obtain ⟨h1, h2⟩ := letB_not h
 unfold jcN
 rw [h2, h1, h]; rfl
theorem jc_blk {c : UInt8} (h : blkB c = true) : jcN c = 0 := by
 unfold jcN
 rw [h]; rfl
theorem jc_sgn {c : UInt8} (h0 : blkB c = false) (h1 : digB c = false) (h2 : letB c = false) : jcN c = if sgnB c then 3 else 4 := by
 unfold jcN
 rw [h0, h1, h2]; rfl
theorem jc_one {c : UInt8} : jcN c = 1 ↔ digB c = true := by
 constructor
 ·intro h
  unfold jcN at h
  cases h0 : blkB c <;> cases h1 : digB c <;> cases h2 : letB c <;> cases h3 : sgnB c <;> simp [h0, h1, h2, h3] at h ⊢
 ·exact jc_dig
theorem jc_two {c : UInt8} (h : jcN c = 2) : letB c = true := by
 unfold jcN at h
 cases h0 : blkB c <;> cases h1 : digB c <;> cases h2 : letB c <;> cases h3 : sgnB c <;> simp [h0, h1, h2, h3] at h ⊢
theorem name_iff {c : UInt8} : nameB c = true ↔ (jcN c = 1 ∨ jcN c = 2) := by
 unfold nameB
 rw [Bool.or_eq_true]
 constructor
 ·rintro (h | h)
  ·exact .inr (jc_let h)
  ·exact .inl (jc_dig h)
 ·rintro (h | h)
  ·exact .inr (jc_one.1 h)
  ·exact .inl (jc_two h)
theorem jG_close (r : List UInt8) (i : Nat) (out : List LTok) (t : LTok) (hr : ∀ c r', r = c :: r' → jmore t c = false) : jG r i out (some t) = if jnumT t then jG r i (out ++ [t]) none else ([], t.pos, 1) := by
 cases r with
 | nil => rw [jG_nil_some, jG_nil_none]
 | cons c r =>
  rw [jG_some, jG_none, hr c r rfl]
  by_cases h4 : jcN c = 4
  ·rw [if_pos h4, if_pos h4]
  ·rw [if_neg h4, if_neg h4, if_neg (by simp)]
theorem jG_dig (p : Nat) : ∀ (r s : List UInt8) (i : Nat) (out : List LTok), (∀ c ∈ s, digB c = true) → jG r i out (some ⟨1, p, s⟩) = if numJ (s ++ r.takeWhile digB) then jG (r.drop (r.takeWhile digB).length) (i + (r.takeWhile digB).length) (out ++ [⟨1, p, s ++ r.takeWhile digB⟩]) none else ([], p, 1) := by
 intro r
 induction r with
 | nil =>
  intro s i out hs
  rw [jG_nil_some]
  simp only [List.takeWhile_nil, List.append_nil, List.length_nil, List.drop_nil, Nat.add_zero, jG_nil_none]
  rfl
 | cons c r ih =>
  intro s i out hs
  have hne : ∀ d : Nat, ((s == [61]) && decide (d = 61)) = false := fun d => by
   rw [Bool.and_eq_false_iff, beq_eq_false_iff_ne]
   refine .inl fun e => ?_
   exact (digB_61 (hs 61 (by rw [e]; simp))).1 rfl
  by_cases hd : digB c = true
  ·have hk := jc_dig hd
   have hmore : jmore ⟨1, p, s⟩ c = true := by unfold jmore; rw [hk]; rfl
   have hsc : ∀ x ∈ s ++ [c], digB x = true := fun x hx => by
    rcases List.mem_append.1 hx with h | h
    ·exact hs x h
    ·rw [List.mem_singleton.1 h]; exact hd
   have h61 : ((jadd ⟨1, p, s⟩ c).text == [61, 61]) = false := by
    rw [beq_eq_false_iff_ne]
    intro e
    exact (digB_61 (hsc 61 (by rw [show s ++ [c] = [61, 61] from e]; simp))).1 rfl
   rw [jG_some, if_neg (by rw [hk]; decide), if_pos hmore, h61, List.takeWhile_cons, if_pos hd]
   have := ih (s ++ [c]) (i + 1) out hsc
   rw [if_neg (by simp)]
   rw [show jadd ⟨1, p, s⟩ c = ⟨1, p, s ++ [c]⟩ from rfl, this, List.append_assoc, List.singleton_append, List.length_cons, List.drop_succ_cons, show i + 1 + (r.takeWhile digB).length = i + ((r.takeWhile digB).length + 1) by omega]
  ·have hmore : jmore ⟨1, p, s⟩ c = false := by
     unfold jmore
     have hk : ¬ jcN c = 1 := fun e => hd (jc_one.1 e)
     simp only [decide_eq_false hk, Bool.and_false, Bool.false_or, hne]
     rfl
   rw [jG_close _ _ _ _ (fun c' r' e => by injection e with e1 e2; subst e1; exact hmore), List.takeWhile_cons, if_neg hd]
   simp only [List.append_nil, List.length_nil, List.drop_zero, Nat.add_zero]
   rfl
theorem jG_name (p : Nat) : ∀ (r s : List UInt8) (i : Nat) (out : List LTok), (∀ c ∈ s, nameB c = true) → jG r i out (some ⟨2, p, s⟩) = jG (r.drop (r.takeWhile nameB).length) (i + (r.takeWhile nameB).length) (out ++ [⟨2, p, s ++ r.takeWhile nameB⟩]) none := by
 intro r
 induction r with
 | nil =>
  intro s i out hs
  rw [jG_nil_some]
  simp only [List.takeWhile_nil, List.append_nil, List.length_nil, List.drop_nil, Nat.add_zero, jG_nil_none]
  rfl
 | cons c r ih =>
  intro s i out hs
  have n61 : nameB 61 = false := by decide
  have hne : ∀ d : Nat, ((s == [61]) && decide (d = 61)) = false := fun d => by
   rw [Bool.and_eq_false_iff, beq_eq_false_iff_ne]
   refine .inl fun e => ?_
   have := hs 61 (by rw [e]; simp)
   rw [n61] at this; cases this
  by_cases hd : nameB c = true
  ·have hk := name_iff.1 hd
   have hmore : jmore ⟨2, p, s⟩ c = true := by
    unfold jmore
    rcases hk with hk | hk <;> rw [hk] <;> rfl
   have hsc : ∀ x ∈ s ++ [c], nameB x = true := fun x hx => by
    rcases List.mem_append.1 hx with h | h
    ·exact hs x h
    ·rw [List.mem_singleton.1 h]; exact hd
   have h61 : ((jadd ⟨2, p, s⟩ c).text == [61, 61]) = false := by
    rw [beq_eq_false_iff_ne]
    intro e
    have := hsc 61 (by rw [show s ++ [c] = [61, 61] from e]; simp)
    rw [n61] at this; cases this
   rw [jG_some, if_neg (by omega), if_pos hmore, h61, List.takeWhile_cons, if_pos hd]
   have := ih (s ++ [c]) (i + 1) out hsc
   rw [if_neg (by simp)]
   rw [show jadd ⟨2, p, s⟩ c = ⟨2, p, s ++ [c]⟩ from rfl, this, List.append_assoc, List.singleton_append, List.length_cons, List.drop_succ_cons, show i + 1 + (r.takeWhile nameB).length = i + ((r.takeWhile nameB).length + 1) by omega]
  ·have hmore : jmore ⟨2, p, s⟩ c = false := by
     unfold jmore
     have hk : ¬ jcN c = 1 := fun e => hd (name_iff.2 (.inl e))
     have hk2 : ¬ jcN c = 2 := fun e => hd (name_iff.2 (.inr e))
     simp only [decide_eq_false hk, decide_eq_false hk2, Bool.and_false, Bool.or_false, hne]
   rw [jG_close _ _ _ _ (fun c' r' e => by injection e with e1 e2; subst e1; exact hmore), List.takeWhile_cons, if_neg hd, if_pos (by rfl)]
   simp only [List.append_nil, List.length_nil, List.drop_zero, Nat.add_zero]
theorem jG_lex (l : List UInt8) (m : Nat) : ∀ (a n : Nat) (out : List LTok), l.length - a ≤ m → l.length - a < n → jG (l.drop a) a out none = lexG l n (runL blkB l a) out := by
 induction m with
 | zero =>
  intro a n out hm hn
  have ha : l.length ≤ a := by omega
  obtain ⟨n, rfl⟩ : ∃ k, n = k + 1 := ⟨n - 1, by omega⟩
  rw [List.drop_eq_nil_of_le ha, jG_nil_none, runL_end ha, lexG_end ha]
 | succ m ih =>
  intro a n out hm hn
  rcases Nat.lt_or_ge a l.length with ha | ha
  ·obtain ⟨n, rfl⟩ : ∃ k, n = k + 1 := ⟨n - 1, by omega⟩
   have hdr := List.drop_eq_getElem_cons ha
   obtain ⟨c, hc⟩ : ∃ c, c = l[a] := ⟨_, rfl⟩
   rw [← hc] at hdr
   by_cases hb : blkB c = true
   ·rw [hdr, jG_none, if_neg (by rw [jc_blk hb]; decide), if_pos (jc_blk hb), runL_step ha (by rw [← hc]; exact hb)]
    exact ih (a + 1) (n + 1) out (by omega) (by omega)
   ·have hb : blkB c = false := by simpa using hb
    rw [runL_stop ha (by rw [← hc]; exact hb)]
    have key : ∀ (k : Int) (t : List UInt8), tokL (l.drop a) = some (k, t) → jG (l.drop (a + t.length)) (a + t.length) (out ++ [⟨k, a, t⟩]) none = lexG l (n + 1) a out := fun k t e => by
     obtain ⟨e1, e2, e3, e4⟩ := tokL_some e
     rw [List.length_drop] at e3
     rw [lexG_step ha e]
     exact ih (a + t.length) n _ (by omega) (by omega)
    by_cases hd : digB c = true
    ·have htok : tokL (l.drop a) = if numS ⟨((c :: l.drop (a + 1)).takeWhile digB).toArray⟩ then some (1, (c :: l.drop (a + 1)).takeWhile digB) else none := by rw [hdr, tokL_cons, if_pos hd]
     have htw : (c :: l.drop (a + 1)).takeWhile digB = c :: (l.drop (a + 1)).takeWhile digB := by rw [List.takeWhile_cons, if_pos hd]
     rw [htw] at htok
     have hall : ∀ x ∈ c :: (l.drop (a + 1)).takeWhile digB, digB x = true := fun x hx => by
      rw [← htw] at hx
      exact takeWhile_mem digB _ x hx
     have hnum := numJ_eq _ (by simp) hall
     rw [hdr, jG_none, if_neg (by rw [jc_dig hd]; decide), if_neg (by rw [jc_dig hd]; decide), jc_dig hd]
     rw [show (⟨((1 : Nat) : Int), a, [c]⟩ : LTok) = ⟨1, a, [c]⟩ from rfl, jG_dig a _ _ _ _ (fun x hx => by rw [List.mem_singleton.1 hx]; exact hd), List.singleton_append, hnum]
     by_cases hn : numS ⟨(c :: (l.drop (a + 1)).takeWhile digB).toArray⟩ = true
     ·rw [if_pos hn] at htok ⊢
      rw [← key _ _ htok, List.drop_drop, List.length_cons, show a + 1 + ((l.drop (a + 1)).takeWhile digB).length = a + (((l.drop (a + 1)).takeWhile digB).length + 1) by omega]
     ·rw [if_neg hn] at htok ⊢
      rw [lexG_bad ha htok]
    ·have hd : digB c = false := by simpa using hd
     by_cases hl : letB c = true
     ·have htw : (c :: l.drop (a + 1)).takeWhile nameB = c :: (l.drop (a + 1)).takeWhile nameB := by rw [List.takeWhile_cons, if_pos (by unfold nameB; rw [hl]; rfl)]
      have htok : tokL (l.drop a) = some (2, c :: (l.drop (a + 1)).takeWhile nameB) := by rw [hdr, tokL_cons, if_neg (by rw [hd]; simp), if_pos hl, htw]
      rw [hdr, jG_none, if_neg (by rw [jc_let hl]; decide), if_neg (by rw [jc_let hl]; decide), jc_let hl]
      rw [show (⟨((2 : Nat) : Int), a, [c]⟩ : LTok) = ⟨2, a, [c]⟩ from rfl, jG_name a _ _ _ _ (fun x hx => by rw [List.mem_singleton.1 hx]; unfold nameB; rw [hl]; rfl), List.singleton_append]
      rw [← key _ _ htok, List.drop_drop, List.length_cons, show a + 1 + ((l.drop (a + 1)).takeWhile nameB).length = a + (((l.drop (a + 1)).takeWhile nameB).length + 1) by omega]
     ·have hl : letB c = false := by simpa using hl
      have hjc := jc_sgn hb hd hl
      by_cases hs : sgnB c = true
      ·rw [if_pos hs] at hjc
       rw [hdr, jG_none, if_neg (by rw [hjc]; decide), if_neg (by rw [hjc]; decide), hjc]
       by_cases hp : Lib.hasPrefix (c :: l.drop (a + 1)) [61, 61] = true
       ·have htok : tokL (l.drop a) = some (3, [61, 61]) := by rw [hdr, tokL_cons, if_neg (by rw [hd]; simp), if_neg (by rw [hl]; simp), if_pos hp]
        unfold Lib.hasPrefix at hp
        obtain ⟨u, hu⟩ := List.isPrefixOf_iff_prefix.1 hp
        have hc2 : c = 61 := by injection hu with h1 h2; exact h1.symm
        have hr2 : l.drop (a + 1) = 61 :: u := by injection hu with h1 h2; exact h2.symm
        have hu2 : u = l.drop (a + 2) := by
         have := congrArg (List.drop 1) hr2
         rw [List.drop_drop] at this
         exact this.symm
        have hk61 : jcN 61 = 3 := by decide
        rw [← key _ _ htok, hr2, hc2, jG_some, if_neg (by rw [hk61]; decide), if_pos (by rfl), if_pos (by rfl), hu2]
        rfl
       ·have htok : tokL (l.drop a) = some (3, [c]) := by rw [hdr, tokL_cons, if_neg (by rw [hd]; simp), if_neg (by rw [hl]; simp), if_neg hp, if_pos hs]
        rw [← key _ _ htok, jG_close, if_pos (by rfl)]
        ·rfl
        ·intro d r' e
         unfold jmore
         simp only [Bool.or_eq_false_iff]
         refine ⟨⟨rfl, rfl⟩, ?_⟩
         rw [Bool.and_eq_false_iff]
         by_cases hc61 : c = 61
         ·refine .inr (decide_eq_false fun h61 => hp ?_)
          have hd61 : d = 61 := UInt8.toNat_inj.1 h61
          rw [hc61, e, hd61]
          simp [Lib.hasPrefix]
         ·refine .inl ?_
          rw [beq_eq_false_iff_ne]
          intro e2
          exact hc61 (List.cons.inj e2).1
      ·have hs : sgnB c = false := by simpa using hs
       have hne : c ≠ 61 := fun e => by subst e; revert hs; decide
       have htok : tokL (l.drop a) = none := by
        rw [hdr, tokL_cons, if_neg (by rw [hd]; simp), if_neg (by rw [hl]; simp), if_neg, if_neg (by rw [hs]; simp)]
        intro hp
        unfold Lib.hasPrefix at hp
        obtain ⟨u, hu⟩ := List.isPrefixOf_iff_prefix.1 hp
        injection hu with h1 h2
        exact hne h1.symm
       rw [hs] at hjc
       rw [lexG_bad ha htok, hdr, jG_none, if_pos (by rw [hjc]; rfl)]
  ·obtain ⟨n, rfl⟩ : ∃ k, n = k + 1 := ⟨n - 1, by omega⟩
   rw [List.drop_eq_nil_of_le ha, jG_nil_none, runL_end ha, lexG_end ha]
theorem jG_eq (l : List UInt8) : jG l 0 [] none = lexR l := by
 have := jG_lex l l.length 0 (l.length + 1) [] (by omega) (by omega)
 rw [List.drop_zero] at this
 exact this
end Go.Proofs.YtnpgpcnkdocknaaGreatDoor
namespace Go.Proofs.YtnpgpcnkdocknaaGreatDoor
open Go.RowKit
set_option linter.unusedVariables false
def tokV (t : LTok) : Value := .agg #[.int .i64 t.kind, .int .i64 (t.pos : Int), .string ⟨t.text.toArray⟩]
set_option maxHeartbeats 1000000 in
set_option maxRecDepth 100000 in
theorem jnumber_any (t : LTok) (ht : t.text.length ≤ 281474976710656) (w : World) (hN : Nums w) :
    Calls Tryz.prog 29 #[tokV t] w fun e w' => e = .returned (.bool (jnumT t)) ∧ Below w.heap.size w w' := by
 obtain ⟨k, p, l⟩ := t
 have HJ := hid (show jnumT ⟨k, p, l⟩ = (!decide (k = 1) || numJ l) from rfl)
 generalize jnumT ⟨k, p, l⟩ = out at HJ ⊢
 obtain ⟨x, hx⟩ : ∃ x : ByteArray, x = ⟨l.toArray⟩ := ⟨_, rfl⟩
 have HXL := hid (show x.data.toList = l by rw [hx])
 have hxs : x.size ≤ 281474976710656 := by rw [hx]; exact ht
 have HNJ := hid (show numJ l = (match Lib.parseIntB 64 x.data.toList with | .ok v => (⟨(Lib.itoa v).toArray⟩ : ByteArray).toList == x.toList | _ => false) by
  rw [HXL.out]
  unfold numJ
  rw [ByteArray.toList_eq x, HXL.out]
  cases Lib.parseIntB 64 l with
  | ok v => simp only [ByteArray.toList_eq]
  | _ => rfl)
 unfold tokV
 simp only
 rw [← hx]
 clear hx ht
 have D1 := hid (Blk.made w [.int .i64 k, .int .i64 (p : Int), .string x] 49 (base := 0) (Nat.zero_le _))
 have B1 : Below w.heap.size w (w.alloc (.cells #[.int .i64 k, .int .i64 (p : Int), .string x] 49)) := (Below.refl _ _).alloc (Nat.le_refl _) _
 have N1 := hN.go B1
 obtain ⟨d, hd⟩ : ∃ d, d = w.heap.size := ⟨_, rfl⟩
 have hdd := hd
 rw [← hd] at D1
 clear hdd
 generalize hr : Lib.parseIntB 64 x.data.toList = r at HNJ
 have HBD := hid (fun v (h : r = .ok v) => Lib.parseIntB_bounds (hr.trans h))
 have HPI := hid (fun W (hW : Nums W) => pi_n x hxs W hW)
 rw [hr] at HPI
 clear hr
 go_enter Tryz.func29, Tryz.ntmps29
 go_wp2_with (go_at_call 50; refine (HPI.out _ N1).mono ?_)
 rintro e W1 ⟨a, b, rfl, hab, hb1⟩
 have D2 := hid (D1.out.below hb1)
 have B2 := B1.trans (hb1.mono B1.size)
 have N2 := N1.go hb1
 rw [← hd]
 clear hd HPI D1 B1 N1 hb1
 have c0 := D2.out.cell 0 _ rfl
 have c2 := D2.out.cell 2 _ rfl
 by_cases hk : k = 1
 ·have hk2 : (k != 1) = false := by simpa using hk
  cases r with
  | ok v =>
   obtain ⟨rfl, rfl⟩ := hab
   have hbd := HBD.out v rfl
   have hv0 : -9223372036854775808 ≤ v := by have := hbd.1; omega
   have hv1 : v ≤ 9223372036854775807 := by have := hbd.2; omega
   have HFI := hid (fun W (hW : Nums W) => fi_n v hv0 hv1 W hW)
   have HO := hid (show out = ((⟨(Lib.itoa v).toArray⟩ : ByteArray).toList == x.toList) by rw [HJ.out, HNJ.out, hk]; rfl)
   clear HBD hbd HJ HNJ
   generalize (⟨(Lib.itoa v).toArray⟩ : ByteArray) = y at HFI HO
   subst hk
   cases hyx : (y.toList == x.toList)
   ·rw [hyx] at HO
    obtain rfl := HO.out
    go_wp2_with fail
    go_region_with (go_at_call 37; refine (HFI.out _ (N2.go (Below.refl _ _).drew)).mono ?_; rintro e w3 ⟨rfl, hb3⟩; have E3 := hid (D2.out.below (Below.trans (Below.refl _ _).drew hb3)); have j0 := E3.out.cell 0 _ rfl; have j2 := E3.out.cell 2 _ rfl; have B3 := B2.trans (Below.trans (Below.refl _ _).drew (hb3.mono B2.size)))
    all_goals
     go_wp2_with fail
     go_ret
     first | exact ⟨rfl, B3⟩ | exact ⟨by simp, B3⟩
   ·rw [hyx] at HO
    obtain rfl := HO.out
    go_wp2_with fail
    go_region_with (go_at_call 37; refine (HFI.out _ (N2.go (Below.refl _ _).drew)).mono ?_; rintro e w3 ⟨rfl, hb3⟩; have E3 := hid (D2.out.below (Below.trans (Below.refl _ _).drew hb3)); have j0 := E3.out.cell 0 _ rfl; have j2 := E3.out.cell 2 _ rfl; have B3 := B2.trans (Below.trans (Below.refl _ _).drew (hb3.mono B2.size)))
    all_goals
     go_wp2_with fail
     go_ret
     first | exact ⟨rfl, B3⟩ | exact ⟨by simp, B3⟩
  | range =>
   obtain ⟨⟨z, rfl⟩, te, pe, rfl⟩ := hab
   have HO := hid (show out = false by rw [HJ.out, HNJ.out, hk]; rfl)
   obtain rfl := HO.out
   subst hk
   clear HBD HJ HNJ
   go_wp2_with fail
   go_quiet (fail)
   go_wp2_with fail
   go_ret
   exact ⟨rfl, B2.trans ⟨rfl, rfl, rfl, Nat.le_refl _, fun _ _ => rfl⟩⟩
  | _ =>
   obtain ⟨⟨z, rfl⟩, te, pe, rfl⟩ := hab
   have HO := hid (show out = false by rw [HJ.out, HNJ.out, hk]; rfl)
   obtain rfl := HO.out
   subst hk
   clear HBD HJ HNJ
   go_wp2_with fail
   go_quiet (fail)
   go_wp2_with fail
   go_ret
   exact ⟨rfl, B2.trans ⟨rfl, rfl, rfl, Nat.le_refl _, fun _ _ => rfl⟩⟩
 ·have hk2 : (k != 1) = true := by simpa using hk
  have HO := hid (show out = true by rw [HJ.out]; simp [hk])
  obtain rfl := HO.out
  clear HBD HJ HNJ
  have hab2 : ∃ z, a = .int .i64 z := by cases r with
   | ok v => exact ⟨v, hab.1⟩
   | _ => exact hab.1
  obtain ⟨z, rfl⟩ := hab2
  go_wp2_with fail
  go_quiet (fail)
  go_wp2_with fail
  go_ret
  exact ⟨rfl, B2.trans ⟨rfl, rfl, rfl, Nat.le_refl _, fun _ _ => rfl⟩⟩
section
variable {α : Type} {enc : α → List Value} {ok : α → Prop} {size : Nat} {E : TypeId} {w w' : World} {base : Nat} {S : Blocks} {l : List α}
theorem flat_set (hlen : ∀ e, (enc e).length = size) : ∀ (l : List α) (q : Nat) (hq : q < l.length) (j : Nat), j < size → ∀ (x : α) (u : Value), enc x = (enc l[q]).set j u → ((l.set q x).map enc).flatten = ((l.map enc).flatten).set (q * size + j) u := by
 intro l
 induction l with
 | nil => intro q hq; simp at hq
 | cons a r ih =>
  intro q hq j hj x u hx
  cases q with
  | zero =>
   simp only [List.getElem_cons_zero] at hx
   simp only [List.set_cons_zero, List.map_cons, List.flatten_cons, hx, Nat.zero_mul, Nat.zero_add]
   rw [List.set_append_left _ _ (by rw [hlen]; exact hj)]
  | succ q =>
   simp only [List.getElem_cons_succ] at hx
   simp only [List.set_cons_succ, List.map_cons, List.flatten_cons]
   rw [List.set_append_right _ _ (by rw [hlen, Nat.succ_mul]; omega), hlen, ih q (by simpa using hq) j hj x u hx, Nat.succ_mul]
   congr 2
   omega
theorem flat_map {css : List (List Value)} (h1 : css.length = l.length) (h4 : ∀ (i : Nat) e cs, l[i]? = some e → css[i]? = some cs → cs = enc e ∧ ok e) : css = l.map enc := by
 apply List.ext_getElem?
 intro i
 rcases Nat.lt_or_ge i l.length with h | h
 ·have hc : css[i]? = some css[i] := List.getElem?_eq_getElem (by omega)
  rw [hc, List.getElem?_map, List.getElem?_eq_getElem h]
  simp [(h4 i _ _ (List.getElem?_eq_getElem h) hc).1]
 ·rw [List.getElem?_eq_none (by omega), List.getElem?_eq_none (by simpa using h)]
theorem OwnL.setJ {g n cap : Nat} (h : OwnL (Flat enc ok) size E w base S l (.slice (some ⟨g, 0, none⟩) n cap)) (hlen : ∀ e, (enc e).length = size) {q j : Nat} (hq : q < l.length) (hj : j < size) (x : α) (u : Value) (hx : enc x = (enc l[q]).set j u) (hok : ok x) :
    OwnL (Flat enc ok) size E (w.setCell ⟨g, q * size + j, none⟩ u) base S (l.set q x) (.slice (some ⟨g, 0, none⟩) n cap) := by
 obtain ⟨T, css, t1, t2, t3, h1, h2, h3, h4⟩ := h
 have hcs := flat_map (ok := ok) h1 (fun i e cs a b => h4 i e cs a b)
 subst hcs
 obtain ⟨hl, h3⟩ := h3
 rcases h3 with ⟨hv, _⟩ | ⟨g', cap', cur, hv, hbg, hg, hn, hcap, hsz, htake⟩
 ·cases hv
 ·injection hv with e1 e2 e3
  injection e1 with e1
  injection e1 with e1
  subst e1 e2 e3
  have hm := flat_set hlen l q hq j hj x u hx
  refine ⟨T, (l.set q x).map enc, t1, by simpa [World.setCell] using t2, t3, by simp, (fun cs hcs => by obtain ⟨y, _, rfl⟩ := List.mem_map.1 hcs; exact hlen y), ⟨by rw [hm]; simpa using hl, .inr ⟨g, cap, cur.setIfInBounds (q * size + j) u, by simp, hbg, ?_, by simpa using hn, hcap, by simpa using hsz, ?_⟩⟩, fun i e cs hi hc => ?_⟩
  ·simp [World.setCell, Array.getElem?_modify, hg]
  ·rw [hm, ← htake]
   simp only [List.length_set, Array.toList_setIfInBounds]
   rw [List.take_set]
  ·rw [List.getElem?_map, hi] at hc
   simp at hc
   subst hc
   refine ⟨rfl, ?_⟩
   rcases Nat.lt_or_ge i l.length with hil | hil
   ·by_cases hiq : q = i
    ·subst hiq
     rw [List.getElem?_set_self hq] at hi
     simp at hi; subst hi; exact hok
    ·rw [List.getElem?_set_ne hiq] at hi
     exact (h4 i e _ hi (by rw [List.getElem?_map, hi]; rfl)).2
   ·rw [List.getElem?_eq_none (by simpa using hil)] at hi
    cases hi
end
theorem jcl_jc (c : UInt8) : jclN c = jcN c := by
 have key : ∀ n : Fin 256, jclN (UInt8.ofNat n.val) = jcN (UInt8.ofNat n.val) := by decide +kernel
 have h := key ⟨c.toNat, c.toNat_lt⟩
 simpa using h
theorem jc_le (c : UInt8) : jcN c ≤ 4 := by rw [← jcl_jc]; exact jcl_le c
theorem jclass_j (c : UInt8) (w : World) : Calls Tryz.prog 28 #[.int .u8 (c.toNat : Int)] w fun e w' => e = .returned (.int .i64 (jcN c : Nat)) ∧ Below w.heap.size w w' := by
 rw [← jcl_jc]; exact jclass_any c w
def rowsJ (out : List LTok) (op : Option LTok) : List LTok := out ++ op.toList
theorem toks_own {w : World} {base : Nat} {S : Blocks} {out : List LTok} {t : LTok} {v : Value} {E : TypeId} (h : OwnToks E w base S (out ++ [t]) v) :
    ∃ g cap, v = .slice (some ⟨g, 0, none⟩) (out.length + 1) cap ∧ base ≤ g ∧ g < w.heap.size ∧ (∀ o, w.frozen? ⟨g, o, none⟩ = false) ∧ okT t ∧ w.cell? ⟨g, out.length * 3, none⟩ = some (.int .i64 t.kind) ∧ w.cell? ⟨g, out.length * 3 + 1, none⟩ = some (.int .i64 (t.pos : Int)) ∧ w.cell? ⟨g, out.length * 3 + 2, none⟩ = some (.string ⟨t.text.toArray⟩) := by
 obtain ⟨g, cap, hv, h1, h2, _, _, h3, h4⟩ := OwnL.flat h (by simp)
 have hq : out.length < (out ++ [t]).length := by simp
 obtain ⟨hok, hc⟩ := h4 out.length hq
 rw [List.getElem_concat_length rfl] at hok hc
 exact ⟨g, cap, by rw [hv]; simp, h1, h2, h3, hok, hc 0 _ rfl, hc 1 _ rfl, hc 2 _ rfl⟩
set_option maxHeartbeats 16000000 in
set_option maxRecDepth 100000 in
theorem jtokens_any (s : ByteArray) (hs : s.size ≤ 4398046511103) (w : World) (hN0 : Nums w) :
    Calls Tryz.prog 14 #[.string s] w (TokOut (jG s.data.toList 0 [] none) w) := by
 obtain ⟨i0, hi, hz0, hz1, hz2⟩ := info_parts infoTok
 have HLN := hid (data_len s)
 have HN := hid hN0
 clear hN0
 obtain ⟨R, hR⟩ : ∃ R, R = jG s.data.toList 0 [] none := ⟨_, rfl⟩
 rw [← hR]
 have HR0 := hid hR
 clear hR
 go_enter Tryz.func14, Tryz.ntmps14
 go_wp2_with fail
 go_loopw [5, 6, 15] (fun o b u wr => ∃ (i : Nat) (out : List LTok) (op : Option LTok), u = .int .i64 (i : Int) ∧ b = .bool op.isSome ∧ i ≤ s.size ∧ out.length + op.toList.length ≤ i ∧ (∀ t, op = some t → t.pos ≤ i ∧ t.text.length ≤ i) ∧ Hid (R = jG (s.data.toList.drop i) i out op) ∧ Hid (OwnToks 49 wr w.heap.size Nowhere (rowsJ out op) o) ∧ Below w.heap.size w wr) (fun _ _ u _ => s.size - (intOf u).toNat)
 case atStart => exact ⟨0, [], none, rfl, rfl, Nat.zero_le _, Nat.le_refl _, (fun t h => by cases h), HR0, hid (OwnL.nil _ _ _), Below.refl _ _⟩
 case round =>
  clear HR0
  obtain ⟨i, out, op, rfl, rfl, hi1, hol, hop, HR, HO, hb⟩ := hrel
  have hsz := hb.size
  by_cases hlt : i < s.size
  ·have HG := hid (show s.data.toList.drop i = s[i]'hlt :: s.data.toList.drop (i + 1) by
     rw [List.drop_eq_getElem_cons (by rw [HLN.out]; exact hlt), Array.getElem_toList]; rfl)
   rw [HG.out] at HR
   obtain ⟨k, hk⟩ : ∃ k, k = jcN (s[i]'hlt) := ⟨_, rfl⟩
   have HC := hid (fun W => jclass_j (s[i]'hlt) W)
   have hkle : k ≤ 4 := by rw [hk]; exact jc_le _
   rw [← hk] at HC
   have HK := hid hk.symm
   clear hk
   go_wp2_with (go_at_call 28; refine (HC.out _).mono ?_)
   rintro e w1 ⟨rfl, hb1⟩
   have B1 := hb.trans (hb1.mono hsz)
   have hsz1 := B1.size
   have O1 := hid (HO.out.keep Flat.keeps hb1)
   have N1 := hid (HN.out.go B1)
   clear hb hb1 HO HC hsz
   cases op with
   | none =>
    ·skip
     rw [show rowsJ out none = out from List.append_nil _] at O1
     replace hol : out.length ≤ i := by simpa using hol
     clear hop
     obtain ⟨A0, cap0, rfl⟩ := O1.out.form
     by_cases hk4 : k = 4
     ·have hk4' : ((k : Int) == 4) = true := by rw [hk4]; rfl
      have HX := hid (show R = ([], i, 1) by rw [HR.out, jG_none, HK.out, if_pos hk4])
      clear hk4
      go_wp2_with fail
      go_ret3
      exact ⟨_, by rw [HX.out]; rfl, by rw [HX.out]; exact RdL.nil (by unfold maxLen; omega), B1⟩
     ·have hk4' : ((k : Int) == 4) = false := by simpa using (fun h => hk4 (by omega))
      by_cases hk0 : k = 0
      ·have HX := hid (show R = jG (s.data.toList.drop (i + 1)) (i + 1) out none by rw [HR.out, jG_none, HK.out, if_neg hk4, if_pos hk0])
       have hk0' : ¬ (0 : Int) < (k : Int) := by omega
       clear hk0 hk4
       go_wp2_with fail
       go_roundw
       case rel => exact ⟨i + 1, out, none, by go_num, rfl, by omega, by simpa using Nat.le_succ_of_le hol, (fun t h => by cases h), HX, hid (by rw [show rowsJ out none = out from List.append_nil _]; exact O1.out), B1⟩
       case measure => simp [intOf]; omega
      ·have HX := hid (show R = jG (s.data.toList.drop (i + 1)) (i + 1) out (some ⟨(k : Int), i, [s[i]'hlt]⟩) by rw [HR.out, jG_none, HK.out, if_neg hk4, if_neg hk0])
       have hk0' : (0 : Int) < (k : Int) := by omega
       clear hk0 hk4
       have hxx : (s.extract i (i + 1)) = ⟨[s[i]'hlt].toArray⟩ := by
        apply of_list
        rw [Lib.extract_data, Nat.add_sub_cancel_left, HG.out]; rfl
       have HXX := hid hxx
       clear hxx
       have HFL := hid (show ∀ W, Flat encT okT W Nowhere ⟨(k : Int), i, [s[i]'hlt]⟩ [.int .i64 (k : Int), .int .i64 (i : Int), .string (s.extract i (i + 1))] from fun W => ⟨by rw [HXX.out]; rfl, by unfold inI; simp only; omega, by show i ≤ _; omega, by show 1 ≤ _; omega⟩)
       have HL1 := hid (show out.length + 1 ≤ maxLen by unfold maxLen; omega)
       have HL2 := hid (show (out.length + 1) * 32 ≤ 140737488355328 by omega)
       go_wp2_with (at_builtin; refine wpList_append_one rfl _ _ 40 rfl i0 _ Tryz.underlying40 hi hz0 hz1 hz2 rfl (by decide) Flat.keeps O1.out (x := (⟨(k : Int), i, [s[i]'hlt]⟩ : LTok)) (cs := [.int .i64 (k : Int), .int .i64 (i : Int), .string (s.extract i (i + 1))]) (Tx := Nowhere) (HFL.out _) rfl rfl rfl (Sub.nowhere _) (Sub.nowhere _) not_nowhere (by simp [Value.oneCell']) HL1.out HL2.out hsz1 ?_)
       intro v2 w2 ho2 hg2 _
       have B9 := B1.grown hg2 hsz1 (fun g hg => (O1.out.lt g hg).1)
       have O9 := hid ho2
       clear ho2 hg2
       go_wp2_with fail
       go_roundw
       case rel => exact ⟨i + 1, out, some ⟨(k : Int), i, [s[i]'hlt]⟩, by go_num, rfl, by omega, by simp only [Option.toList_some, List.length_singleton]; omega, (fun t h => by injection h with h; subst h; exact ⟨by show i ≤ _; omega, by show 1 ≤ _; omega⟩), HX, O9, B9⟩
       case measure => simp [intOf]; omega
   | some t =>
    ·skip
     rw [show rowsJ out (some t) = out ++ [t] from rfl] at O1
     replace hol : out.length + 1 ≤ i := by simpa using hol
     obtain ⟨hp1, hp2⟩ := hop t rfl
     clear hop
     obtain ⟨g, cap, rfl, hgb, hgl, hfz, hok, e0, e1, e2⟩ := toks_own O1.out
     have HNUM := hid (fun W (hW : Nums W) => jnumber_any t (by omega) W hW)
     obtain ⟨bj, hbj⟩ : ∃ b, b = jnumT t := ⟨_, rfl⟩
     rw [← hbj] at HNUM
     have HBJ := hid hbj.symm
     clear hbj
     by_cases hk4 : k = 4
     ·skip
      have hk4' : ((k : Int) == 4) = true := by rw [hk4]; rfl
      have HX := hid (show R = if bj then ([], i, 1) else ([], t.pos, 1) by rw [HR.out, jG_some, HK.out, if_pos hk4, HBJ.out])
      clear hk4
      go_wp2_with (go_at_call 29; refine (HNUM.out _ N1.out).mono ?_)
      rintro e w3 ⟨rfl, hb3⟩
      have B3 := B1.trans (hb3.mono hsz1)
      replace e1 := (hb3.cell (p := ⟨g, out.length * 3 + 1, none⟩) hgl).trans e1
      clear hb3
      cases bj with
      | true =>
       go_wp2_with fail
       go_ret3
       exact ⟨_, by rw [HX.out]; rfl, by rw [HX.out]; exact RdL.nil (by unfold maxLen; omega), B3⟩
      | false =>
       go_wp2_with fail
       go_quiet (fail)
       go_wp2_with fail
       go_ret3
       exact ⟨_, by rw [HX.out]; rfl, by rw [HX.out]; exact RdL.nil (by unfold maxLen; omega), B3.trans ⟨rfl, rfl, rfl, Nat.le_refl _, fun _ _ => rfl⟩⟩
     ·skip
      have hk4' : ((k : Int) == 4) = false := by simpa using (fun h => hk4 (by omega))
      obtain ⟨y, hy⟩ : ∃ y : ByteArray, y = ⟨t.text.toArray⟩ := ⟨_, rfl⟩
      have HY := hid (show y.data.toList = t.text by rw [hy])
      have hys : y.size ≤ i := by rw [hy]; exact hp2
      rw [← hy] at e2
      replace HNUM := hid (show ∀ W, Nums W → Calls Tryz.prog 29 #[.agg #[.int .i64 t.kind, .int .i64 (t.pos : Int), .string y]] W fun e w' => e = .returned (.bool bj) ∧ Below W.heap.size W w' by rw [hy]; exact HNUM.out)
      clear hy
      have HM := hid (show jmore t (s[i]'hlt) = (((t.kind == 1) && ((k : Int) == 1)) || ((t.kind == 2) && (((k : Int) == 1) || ((k : Int) == 2))) || ((y.toList == [61]) && (((s[i]'hlt).toNat : Int) == 61))) by
       unfold jmore
       rw [HK.out, ByteArray.toList_eq y, HY.out]
       congr 1
       ·congr 1
        ·congr 1
         rw [Bool.eq_iff_iff]; simp; omega
        ·congr 1
         congr 1
         ·rw [Bool.eq_iff_iff]; simp; omega
         ·rw [Bool.eq_iff_iff]; simp; omega
       ·congr 1
        rw [Bool.eq_iff_iff]; simp; omega)
      obtain ⟨mo, hmo⟩ : ∃ b, b = jmore t (s[i]'hlt) := ⟨_, rfl⟩
      rw [← hmo] at HM
      have HMO := hid hmo.symm
      clear hmo
      have D2 := hid (Blk.made w1 [.int .i64 t.kind, .int .i64 (t.pos : Int), .string y] 49 (base := 0) (Nat.zero_le _))
      have hbel : Below w1.heap.size w1 (w1.alloc (.cells #[.int .i64 t.kind, .int .i64 (t.pos : Int), .string y] 49)) := (Below.refl _ _).alloc (Nat.le_refl _) _
      have O2 := hid (O1.out.keep Flat.keeps hbel)
      have B2 := B1.trans (hbel.mono hsz1)
      have N2 := hid (N1.out.go hbel)
      have HFZ := hid (fun o => (hbel.frozen (p := ⟨g, o, none⟩) hgl).trans (hfz o))
      have f2 := (hbel.cell (p := ⟨g, out.length * 3 + 2, none⟩) hgl).trans e2
      have hgl2 := Nat.lt_of_lt_of_le hgl hbel.size
      have hsz2 := B2.size
      obtain ⟨d, hd⟩ : ∃ d, d = w1.heap.size := ⟨_, rfl⟩
      have HGD := hid (show g ≠ d by omega)
      rw [← hd] at D2
      clear hbel O1 N1 B1 hfz
      go_upto_region 15 with (fail)
      rw [← hd]
      clear hd hsz1 hgl e0 e1 e2
      generalize w1.alloc (.cells #[.int .i64 t.kind, .int .i64 (t.pos : Int), .string y] 49) = W2 at *
      have c0 := D2.out.cell 0 _ rfl
      have c1 := D2.out.cell 1 _ rfl
      have c2 := D2.out.cell 2 _ rfl
      go_cut [80] (fun x80 wx => x80 = .bool mo ∧ wx = W2)
      case first =>
       cases h1 : (t.kind == 1)
       ·cases h3 : (t.kind == 2)
        ·skip
         cases h5 : (y.toList == [61])
         ·skip
          go_wp2_with fail
          go_meet
          exact ⟨by rw [HM.out]; simp only [h1, h3, h5]; rfl, rfl⟩
         ·cases h6 : (((s[i]'hlt).toNat : Int) == 61)
          ·skip
           go_wp2_with fail
           go_meet
           exact ⟨by rw [HM.out]; simp only [h1, h3, h5, h6]; rfl, rfl⟩
          ·skip
           go_wp2_with fail
           go_meet
           exact ⟨by rw [HM.out]; simp only [h1, h3, h5, h6]; rfl, rfl⟩
        ·cases h2 : ((k : Int) == 1)
         ·cases h4 : ((k : Int) == 2)
          ·skip
           cases h5 : (y.toList == [61])
           ·skip
            go_wp2_with fail
            go_meet
            exact ⟨by rw [HM.out]; simp only [h1, h3, h2, h4, h5]; rfl, rfl⟩
           ·cases h6 : (((s[i]'hlt).toNat : Int) == 61)
            ·skip
             go_wp2_with fail
             go_meet
             exact ⟨by rw [HM.out]; simp only [h1, h3, h2, h4, h5, h6]; rfl, rfl⟩
            ·skip
             go_wp2_with fail
             go_meet
             exact ⟨by rw [HM.out]; simp only [h1, h3, h2, h4, h5, h6]; rfl, rfl⟩
          ·skip
           go_wp2_with fail
           go_meet
           exact ⟨by rw [HM.out]; simp only [h1, h3, h2, h4]; rfl, rfl⟩
         ·skip
          go_wp2_with fail
          go_meet
          exact ⟨by rw [HM.out]; simp only [h1, h3, h2]; rfl, rfl⟩
       ·have h3 : (t.kind == 2) = false := by have := h1; simp at this; rw [this]; rfl
        cases h2 : ((k : Int) == 1)
        ·skip
         cases h5 : (y.toList == [61])
         ·skip
          go_wp2_with fail
          go_meet
          exact ⟨by rw [HM.out]; simp only [h1, h3, h2, h5]; rfl, rfl⟩
         ·cases h6 : (((s[i]'hlt).toNat : Int) == 61)
          ·skip
           go_wp2_with fail
           go_meet
           exact ⟨by rw [HM.out]; simp only [h1, h3, h2, h5, h6]; rfl, rfl⟩
          ·skip
           go_wp2_with fail
           go_meet
           exact ⟨by rw [HM.out]; simp only [h1, h3, h2, h5, h6]; rfl, rfl⟩
        ·skip
         go_wp2_with fail
         go_meet
         exact ⟨by rw [HM.out]; simp only [h1, h3, h2]; rfl, rfl⟩
      case rest =>
       obtain ⟨rfl, rfl⟩ := hcut
       clear HM
       cases mo with
       | false =>
        ·skip
         go_wp2_with (go_at_call 29; refine (HNUM.out _ N2.out).mono ?_)
         rintro e w4 ⟨rfl, hb4⟩
         have B4 := B2.trans (hb4.mono hsz2)
         have hsz4 := B4.size
         have O4 := hid (O2.out.keep Flat.keeps hb4)
         have D4 := hid (D2.out.below hb4)
         clear hb4 O2 D2 B2 c0 c1 c2 f2 N2 HFZ hgl2
         have c1 := D4.out.cell 1 _ rfl
         cases bj with
         | false =>
          ·skip
           have HX := hid (show R = ([], t.pos, 1) by rw [HR.out, jG_some, HK.out, if_neg hk4, HMO.out, if_neg (by simp), HBJ.out, if_neg (by simp)])
           clear hk4
           go_wp2_with fail
           go_quiet (fail)
           go_wp2_with fail
           go_ret3
           exact ⟨_, by rw [HX.out]; rfl, by rw [HX.out]; exact RdL.nil (by unfold maxLen; omega), B4.trans ⟨rfl, rfl, rfl, Nat.le_refl _, fun _ _ => rfl⟩⟩
         | true =>
          by_cases hk0 : k = 0
          ·have HX := hid (show R = jG (s.data.toList.drop (i + 1)) (i + 1) (out ++ [t]) none by rw [HR.out, jG_some, HK.out, if_neg hk4, HMO.out, if_neg (by simp), HBJ.out, if_pos rfl, if_pos hk0])
           have hk0' : ¬ (0 : Int) < (k : Int) := by omega
           clear hk0 hk4
           go_wp2_with fail
           go_roundw
           case rel => exact ⟨i + 1, out ++ [t], none, by go_num, rfl, by omega, by simp only [List.length_append, List.length_singleton, Option.toList_none, List.length_nil]; omega, (fun t h => by cases h), HX, hid (by rw [show rowsJ (out ++ [t]) none = out ++ [t] from List.append_nil _]; exact O4.out), B4⟩
           case measure => simp [intOf]; omega
          ·have HX := hid (show R = jG (s.data.toList.drop (i + 1)) (i + 1) (out ++ [t]) (some ⟨(k : Int), i, [s[i]'hlt]⟩) by rw [HR.out, jG_some, HK.out, if_neg hk4, HMO.out, if_neg (by simp), HBJ.out, if_pos rfl, if_neg hk0])
           have hk0' : (0 : Int) < (k : Int) := by omega
           clear hk0 hk4
           have hxx : (s.extract i (i + 1)) = ⟨[s[i]'hlt].toArray⟩ := by
            apply of_list
            rw [Lib.extract_data, Nat.add_sub_cancel_left, HG.out]; rfl
           have HXX := hid hxx
           clear hxx
           have HFL := hid (show ∀ W, Flat encT okT W Nowhere ⟨(k : Int), i, [s[i]'hlt]⟩ [.int .i64 (k : Int), .int .i64 (i : Int), .string (s.extract i (i + 1))] from fun W => ⟨by rw [HXX.out]; rfl, by unfold inI; simp only; omega, by show i ≤ _; omega, by show 1 ≤ _; omega⟩)
           have HL1 := hid (show (out ++ [t]).length + 1 ≤ maxLen by unfold maxLen; simp only [List.length_append, List.length_singleton]; omega)
           have HL2 := hid (show ((out ++ [t]).length + 1) * 32 ≤ 140737488355328 by simp only [List.length_append, List.length_singleton]; omega)
           go_wp2_with (at_builtin; refine wpList_append_one rfl _ _ 40 rfl i0 _ Tryz.underlying40 hi hz0 hz1 hz2 rfl (by decide) Flat.keeps O4.out (x := (⟨(k : Int), i, [s[i]'hlt]⟩ : LTok)) (cs := [.int .i64 (k : Int), .int .i64 (i : Int), .string (s.extract i (i + 1))]) (Tx := Nowhere) (HFL.out _) rfl rfl rfl (Sub.nowhere _) (Sub.nowhere _) not_nowhere (by simp [Value.oneCell']) HL1.out HL2.out hsz4 ?_)
           intro v2 w2 ho2 hg2 _
           have B9 := B4.grown hg2 hsz4 (fun g hg => (O4.out.lt g hg).1)
           have O9 := hid ho2
           clear ho2 hg2
           go_wp2_with fail
           go_roundw
           case rel => exact ⟨i + 1, (out ++ [t]), some ⟨(k : Int), i, [s[i]'hlt]⟩, by go_num, rfl, by omega, by simp only [Option.toList_some, List.length_singleton]; simp only [List.length_append, List.length_singleton]; omega, (fun t h => by injection h with h; subst h; exact ⟨by show i ≤ _; omega, by show 1 ≤ _; omega⟩), HX, hid (by rw [show rowsJ (out ++ [t]) (some ⟨(k : Int), i, [s[i]'hlt]⟩) = out ++ [t, ⟨(k : Int), i, [s[i]'hlt]⟩] from by unfold rowsJ; simp]; exact O9.out), B9⟩
           case measure => simp [intOf]; omega
       | true =>
        ·skip
         clear c0 c1 c2 HNUM
         have hfz2 := HFZ.out (out.length * 3 + 2)
         have hy1 : y.size + 1 ≤ 9223372036854775807 := by omega
         have hxs : (s.extract i (i + 1)).size = 1 := by rw [ByteArray.size_extract]; omega
         have hxx : (s.extract i (i + 1)) = ⟨[s[i]'hlt].toArray⟩ := by
          apply of_list
          rw [Lib.extract_data, Nat.add_sub_cancel_left, HG.out]; rfl
         have HXX := hid hxx
         clear hxx
         obtain ⟨z, hz⟩ : ∃ z, z = y ++ s.extract i (i + 1) := ⟨_, rfl⟩
         have HZ := hid (show z.data.toList = (jadd t (s[i]'hlt)).text by
          rw [hz, ByteArray.data_append, Array.toList_append, HY.out, HXX.out]; rfl)
         have HZZ := hid hz.symm
         clear hz
         have hql : out.length < (out ++ [t]).length := by simp
         have hzs : z.size ≤ i + 1 := by rw [← HZZ.out, ByteArray.size_append, hxs]; omega
         have HO3 := hid (show OwnToks 49 (wc.setCell ⟨g, out.length * 3 + 2, none⟩ (.string z)).drew w.heap.size Nowhere (out ++ [jadd t (s[i]'hlt)]) (.slice (some ⟨g, 0, none⟩) (out.length + 1) cap) by
          have h := OwnL.setJ O2.out (fun e => rfl) (q := out.length) (j := 2) hql (by decide) (jadd t (s[i]'hlt)) (.string z) (by
           rw [List.getElem_concat_length rfl]
           show [_, _, _] = List.set [_, _, _] 2 _
           rw [show (⟨(jadd t (s[i]'hlt)).text.toArray⟩ : ByteArray) = z from (of_list _ _ HZ.out).symm]
           rfl) ⟨hok.1, hok.2.1, by
            have := HZ.out
            rw [← this, ← Lib.size_eq]; omega⟩
          rw [show (out ++ [t]).set out.length (jadd t (s[i]'hlt)) = out ++ [jadd t (s[i]'hlt)] by rw [List.set_append_right _ _ (Nat.le_refl _), Nat.sub_self]; rfl] at h
          exact h.keep Flat.keeps (Below.refl _ _).drew)
         have HB3 := hid (show Below w.heap.size w (wc.setCell ⟨g, out.length * 3 + 2, none⟩ (.string z)).drew from (B2.setCell (p := ⟨g, out.length * 3 + 2, none⟩) hgb _).drew)
         have HC3 := hid (show (wc.setCell ⟨g, out.length * 3 + 2, none⟩ (.string z)).drew.cell? ⟨g, out.length * 3 + 2, none⟩ = some (.string z) from World.cell?_setCell_same' _ _ _ (by rw [f2]; rfl))
         go_wp2_with fail
         go_region
         rw [HZZ.out]
         generalize (wc.setCell ⟨g, out.length * 3 + 2, none⟩ (.string z)).drew = W3 at *
         have f3 := HC3.out
         clear f2 HC3 O2 D2 B2 N2 HFZ hgl2 hfz2
         cases h61 : (z.toList == [61, 61])
         ·have HX := hid (show R = jG (s.data.toList.drop (i + 1)) (i + 1) out (some (jadd t (s[i]'hlt))) by
            rw [HR.out, jG_some, HK.out, if_neg hk4, HMO.out, if_pos rfl, if_neg]
            rw [← HZ.out, ← ByteArray.toList_eq z]
            simpa using h61)
          have HZ2 := hid (show (jadd t (s[i]'hlt)).text.length ≤ i + 1 by rw [← HZ.out, ← Lib.size_eq]; exact hzs)
          clear hk4
          go_wp2_with fail
          go_roundw
          case rel => exact ⟨i + 1, out, some (jadd t (s[i]'hlt)), by go_num, by first | rfl | (rw [h61]; rfl), by omega, by simp only [Option.toList_some, List.length_singleton]; omega, (fun t h => by injection h with h; subst h; exact ⟨by show _ ≤ _; exact Nat.le_succ_of_le hp1, HZ2.out⟩), HX, HO3, HB3.out⟩
          case measure => simp [intOf]; omega
         ·have HX := hid (show R = jG (s.data.toList.drop (i + 1)) (i + 1) (out ++ [jadd t (s[i]'hlt)]) none by
            rw [HR.out, jG_some, HK.out, if_neg hk4, HMO.out, if_pos rfl, if_pos]
            rw [← HZ.out, ← ByteArray.toList_eq z]
            simpa using h61)
          clear hk4
          go_wp2_with fail
          go_roundw
          case rel => exact ⟨i + 1, out ++ [jadd t (s[i]'hlt)], none, by go_num, by first | rfl | (rw [h61]; rfl), by omega, by simp only [List.length_append, List.length_singleton, Option.toList_none, List.length_nil]; omega, (fun t h => by cases h), HX, hid (by rw [show rowsJ (out ++ [jadd t (s[i]'hlt)]) none = out ++ [jadd t (s[i]'hlt)] from List.append_nil _]; exact HO3.out), HB3.out⟩
          case measure => simp [intOf]; omega
  ·have hin : i = s.size := by omega
   have HD := hid (show s.data.toList.drop i = [] from List.drop_eq_nil_of_le (by rw [HLN.out]; omega))
   rw [HD.out] at HR
   clear hin
   cases op with
   | none =>
    ·skip
     rw [show rowsJ out none = out from List.append_nil _] at HO
     replace hol : out.length ≤ i := by simpa using hol
     clear hop
     obtain ⟨A0, cap0, rfl⟩ := HO.out.form
     have HX := hid (show R = (out, 0, 0) by rw [HR.out, jG_nil_none])
     have HRD := hid (HO.out.toRd (bytes := 32) (S' := Plus Nowhere w.heap.size wr.heap.size) Flat.keeps (by omega) (Sub.nowhere _) (fun b h1 h2 => .inr ⟨h1, h2⟩))
     clear HO
     go_wp2_with fail
     go_ret3
     exact ⟨_, by rw [HX.out]; rfl, by rw [HX.out]; exact HRD.out, hb⟩
   | some t =>
    ·skip
     rw [show rowsJ out (some t) = out ++ [t] from rfl] at HO
     replace hol : out.length + 1 ≤ i := by simpa using hol
     obtain ⟨hp1, hp2⟩ := hop t rfl
     clear hop
     have HRD := hid (fun W (h : Below wr.heap.size wr W) => (HO.out.keep Flat.keeps h).toRd (bytes := 32) (S' := Plus Nowhere w.heap.size W.heap.size) Flat.keeps (by simp only [List.length_append, List.length_singleton]; omega) (Sub.nowhere _) (fun b h1 h2 => .inr ⟨h1, h2⟩))
     obtain ⟨g, cap, rfl, hgb, hgl, hfz, hok, e0, e1, e2⟩ := toks_own HO.out
     have HNUM := hid (fun W (hW : Nums W) => jnumber_any t (by omega) W hW)
     have HX0 := hid (show R = if jnumT t then (out ++ [t], 0, 0) else ([], t.pos, 1) by rw [HR.out, jG_nil_some])
     generalize jnumT t = bj at HNUM HX0
     have N1 := hid (HN.out.go hb)
     go_wp2_with (go_at_call 29; refine (HNUM.out _ N1.out).mono ?_)
     rintro e w3 ⟨rfl, hb3⟩
     have B3 := hb.trans (hb3.mono hsz)
     have HRD3 := hid (HRD.out _ hb3)
     replace e1 := (hb3.cell (p := ⟨g, out.length * 3 + 1, none⟩) hgl).trans e1
     clear hb3 HO HRD
     cases bj with
     | true =>
      go_wp2_with fail
      go_ret3
      exact ⟨_, by rw [HX0.out]; rfl, by rw [HX0.out]; exact HRD3.out, B3⟩
     | false =>
      go_wp2_with fail
      go_quiet (fail)
      go_wp2_with fail
      go_ret3
      exact ⟨_, by rw [HX0.out]; rfl, by rw [HX0.out]; exact RdL.nil (by unfold maxLen; omega), B3.trans ⟨rfl, rfl, rfl, Nat.le_refl _, fun _ _ => rfl⟩⟩
theorem jtokens_lex (s : ByteArray) (hs : s.size ≤ 4398046511103) (w : World) (hN0 : Nums w) :
    Calls Tryz.prog 14 #[.string s] w (TokOut (lexR s.data.toList) w) := by
 rw [← jG_eq]; exact jtokens_any s hs w hN0
theorem kqstmts_any (n : Nat) : KSs n := by
 induction n using Nat.strongRecOn with
 | ind n ih => exact kstmts_step n (fun m hm => kqstmt_any m (ih m hm))
set_option maxHeartbeats 2000000 in
set_option maxRecDepth 100000 in
theorem kparse_any (s : ByteArray) (hs : s.size ≤ 1048576) (w : World) (hN : Nums w) : Calls Tryz.prog 5 #[.string s] w (ParOut (parG s.data.toList) w) := by
 have hln := data_len s
 have hlen := lexR_len s.data.toList
 have hok := lexR_ok s.data.toList
 have HT := hid (jtokens_lex s (by omega) w hN)
 obtain ⟨G, hG⟩ : ∃ G, G = parG s.data.toList := ⟨_, rfl⟩
 rw [← hG]
 unfold parG at hG
 rw [hln] at hG hlen
 generalize lexR s.data.toList = Z at *
 obtain ⟨L, at_, er⟩ := Z
 simp only at hG hlen hok
 unfold TokOut at HT
 simp only at HT
 have HG := hid hG
 clear hG hN
 go_enter Tryz.func5, Tryz.ntmps5
 go_upto_region 2 with (go_at_call 14; refine HT.out.mono ?_; rintro e w1 ⟨x, rfl, hx, hb1⟩)
 have HX1 := hid hx
 have HB1 := hid hb1
 clear hx hb1 HT
 by_cases her : er = 0
 ·subst her
  rw [if_pos rfl] at HG
  obtain ⟨o, ho⟩ : ∃ o, stsG (6 * L.length + 1) [] L = some o := Option.ne_none_iff_exists'.1 (stsG_told _ _ _ (Nat.le_refl _))
  rw [ho] at HG
  have HO := hid ho
  have HOK := hid (fun t ht => (⟨hok t ht, Nat.le_trans (hlen.2 t ht) hs⟩ : tokOk t))
  have hLl : L.length ≤ 1048576 := Nat.le_trans hlen.1 hs
  clear ho hok hlen hln
  obtain ⟨A, cap, rfl, hAl, hAc, _⟩ := HX1.out.form
  unfold maxLen at hAc
  have bl2 : Below w1.heap.size w1 (w1.alloc (.cells #[.slice A L.length cap, .int .i64 0] 45)) := (Below.refl _ _).alloc (Nat.le_refl _) _
  have HPS := hid (show RkAt w1.heap.size L (w1.alloc (.cells #[.slice A L.length cap, .int .i64 0] 45)) 0 from ⟨_, Blk.made w1 [.slice A L.length cap, .int .i64 0] 45 (Nat.zero_le _), RdL.go HX1.out Flat.keeps bl2 (fun k hk => hk.elim False.elim (fun h => h.2)) (fun k hk => hk.elim False.elim (fun h => h.2)), HOK.out, hLl, Nat.zero_le _⟩)
  have HX2 := hid (RdL.go HX1.out Flat.keeps bl2 (fun k hk => hk.elim False.elim (fun h => h.2)) (Sub.refl _))
  have HB2 := hid (HB1.out.trans (bl2.mono HB1.out.size))
  have HST := hid (kqstmts_any (6 * L.length + 1) w1.heap.size 0 L (w1.alloc (.cells #[.slice A L.length cap, .int .i64 0] 45)) 0 o (by rw [List.drop_zero]; exact HO.out) HPS.out (Nat.zero_le _) (Nat.le_refl _))
  have hz1 := HB1.out.size
  have hkW : w1.heap.size < (w1.alloc (.cells #[.slice A L.length cap, .int .i64 0] 45)).heap.size := by simp
  clear bl2 HX1 HB1 HPS hAl hAc HOK HO
  go_upto_region 5 with (fail)
  generalize (w1.alloc (.cells #[.slice A L.length cap, .int .i64 0] 45)) = W2 at *
  cases o with
  | no r =>
   have HG2 := hid (show G = ([], placeG (s.size : Int) r, 1) from HG.out)
   clear HG
   go_upto_region 8 with (go_at_call 15; refine HST.out.mono ?_; rintro e w3 ⟨x9, z, g, rfl, ⟨l9, hx9⟩, hfr, hp3, hb3⟩; obtain ⟨A9, c9, rfl⟩ := hx9.form)
   have HB3 := hid (HB2.out.trans (hb3.below (by omega) (fun k hk => by unfold Is at hk; omega)))
   have HX3 := hid (RdL.keep HX2.out Flat.keeps (Sub.refl _) (hb3.same (fun k hk => hk.elim False.elim (fun h => Nat.lt_trans h.2 hkW)) (fun k hk e => hk.elim False.elim (fun h => by unfold Is at e; have := h.2; omega))))
   have hgl := hp3.len.2
   obtain ⟨A5, cap5, c0, c1, f1, _⟩ := hp3.open_
   have HFR := hid hfr
   clear hx9 hfr hp3 hb3 HB2 HX2 HST
   by_cases hge : L.length ≤ g
   ·have hge' : (L.length : Int) ≤ (g : Int) := by omega
    have HZ := hid (show placeG (s.size : Int) r = s.size by rw [← HFR.out, List.drop_eq_nil_of_le hge]; rfl)
    clear hge
    go_wp2
    go_ret3
    rw [HG2.out, HZ.out]
    exact ⟨_, rfl, RdL.nil (by unfold maxLen; omega), HB3.out⟩
   ·have hge' : ¬ (L.length : Int) ≤ (g : Int) := by omega
    have hgl2 : g < L.length := by omega
    obtain ⟨b, off, rfl, hb, hok, hc⟩ := RdL.flat HX3.out hgl2
    have k1 : w3.cell? ⟨b, off + g * 3 + 1, none⟩ = some (.int .i64 ((L[g]'hgl2).pos : Int)) := by have := hc 1 _ rfl; simpa [Nat.add_assoc] using this
    have HZ := hid (show placeG (s.size : Int) r = ((L[g]'hgl2).pos : Int) by rw [← HFR.out, List.drop_eq_getElem_cons hgl2]; rfl)
    have hgi : (g : Int) < (L.length : Int) := by omega
    generalize (L[g]'hgl2).pos = pz at *
    clear hge hb hok hc HX3
    go_upto_region 10 with (fail)
    go_quiet (fail)
    go_wp2
    go_ret3
    rw [HG2.out, HZ.out]
    exact ⟨_, rfl, RdL.nil (by unfold maxLen; omega), below_drewN HB3.out _⟩
  | ok l r =>
   go_upto_region 6 with (go_at_call 15; refine HST.out.mono ?_; rintro e w3 ⟨x9, b, rfl, hx9, hbr, hbl, hp3, hb3⟩; obtain ⟨A9, c9, rfl⟩ := hx9.form)
   have HB3 := hid (HB2.out.trans (hb3.below (by omega) (fun k hk => by unfold Is at hk; omega)))
   have HX3 := hid (RdL.keep HX2.out Flat.keeps (Sub.refl _) (hb3.same (fun k hk => hk.elim False.elim (fun h => Nat.lt_trans h.2 hkW)) (fun k hk e => hk.elim False.elim (fun h => by unfold Is at e; have := h.2; omega))))
   have HXS := hid (show RdSts w3 (Plus Nowhere w.heap.size w3.heap.size) l (.slice A9 l.length c9) from RdL.sub hx9 RdSt.keeps (fun k hk => .inr ⟨by have := hk.1; omega, hk.2.1⟩))
   obtain ⟨A5, cap5, c0, c1, f1, _⟩ := hp3.open_
   have HBR := hid hbr
   clear hx9 hbr hp3 hb3 HB2 HX2 HST
   cases r with
   | nil =>
    have HG2 := hid (show G = (l, 0, 0) from HG.out)
    have hbe := drop_end hbl HBR.out
    have hbi : ((b : Int) == (L.length : Int)) = true := by rw [hbe]; simp
    clear HG hbe
    go_wp2
    go_ret3
    rw [HG2.out]
    exact ⟨_, rfl, HXS.out, HB3.out⟩
   | cons t r =>
    have HG2 := hid (show G = ([], (t.pos : Int), 1) from HG.out)
    have hbl2 : b < L.length := by
     rcases Nat.lt_or_ge b L.length with h | h
     ·exact h
     ·have h2 := HBR.out; rw [List.drop_eq_nil_of_le h] at h2; cases h2
    have hbi : ((b : Int) == (L.length : Int)) = false := by simp; omega
    have hge' : ¬ (L.length : Int) ≤ (b : Int) := by omega
    have hgi : (b : Int) < (L.length : Int) := by omega
    obtain ⟨bb, off, rfl, hb, hok, hc⟩ := RdL.flat HX3.out hbl2
    have htt : L[b]'hbl2 = t := by have h2 := HBR.out; rw [List.drop_eq_getElem_cons hbl2] at h2; injection h2
    have k1 : w3.cell? ⟨bb, off + b * 3 + 1, none⟩ = some (.int .i64 (t.pos : Int)) := by have := hc 1 _ rfl; rw [htt] at this; simpa [Nat.add_assoc] using this
    generalize t.pos = pz at *
    clear hb hok hc HX3 HG htt
    go_upto_region 10 with (fail)
    go_quiet (fail)
    go_wp2
    go_ret3
    rw [HG2.out]
    exact ⟨_, rfl, RdL.nil (by unfold maxLen; omega), below_drewN HB3.out _⟩
 ·have HG2 := hid (show G = ([], (at_ : Int), er) by rw [HG.out, if_neg her])
  have hne : (er != 0) = true := by simpa using her
  obtain ⟨A, cap, rfl, _⟩ := HX1.out.form
  clear her HG
  go_wp2
  go_ret3
  rw [HG2.out]
  exact ⟨_, rfl, RdL.nil (by unfold maxLen; omega), HB1.out⟩
end Go.Proofs.YtnpgpcnkdocknaaGreatDoor
