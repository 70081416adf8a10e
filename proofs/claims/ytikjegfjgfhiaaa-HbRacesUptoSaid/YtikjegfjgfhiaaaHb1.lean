/- Package hb: events that are read, rows of clocks, the clocks of all activities in a map. -/
import Derived.Test.YtikjegfjgfhiaaaHbSpec
import Derived.Test.YtikjegfjgfhiaaaMapV
import Derived.Test.YtikjegfjgfhiaaaBlk
import Derived.Test.YtikjegfjgfhiaaaVec3
namespace Go.Proofs.Ytikjegfjgfhiaaa
open Go.RowKit
set_option linter.unusedVariables false
def encEv (e : HEv) : List Value := [.int .i64 e.kind, .int .i64 e.act, .int .i64 e.other, .int .i64 e.cell, .bool e.write, .int .i64 e.label]
def okEv (e : HEv) : Prop := inI e.kind ∧ inI e.act ∧ inI e.other ∧ inI e.cell ∧ inI e.label
abbrev RdEvs := RdL (Flat encEv okEv) 6 48
theorem RdEvs.at_ {w : World} {S : Blocks} {l : List HEv} {A : Option Addr} {n cap : Nat} (h : RdEvs w S l (.slice A n cap)) {q : Nat} (hq : q < l.length) :
    ∃ b off, A = some ⟨b, off, none⟩ ∧ S b ∧ okEv (evAt l q) ∧ ∀ (j : Nat) v, (encEv (evAt l q))[j]? = some v → w.cell? ⟨b, off + (q * 6 + j), none⟩ = some v := by
  have e : evAt l q = l[q] := by unfold evAt; rw [List.getElem?_eq_getElem hq]; rfl
  rw [e]
  exact h.flat hq
theorem OwnL.bound {α : Type} {rd : World → Blocks → α → List Value → Prop} {size : Nat} {E : TypeId} {w : World} {base : Nat} {S : Blocks} {l : List α} {v : Value} (h : OwnL rd size E w base S l v) : OwnL rd size E w base (fun b => S b ∧ b < w.heap.size) l v := by
  obtain ⟨T, css, h1, h2, h3⟩ := h
  exact ⟨T, css, fun b hb => ⟨h1 b hb, h2 b hb⟩, h2, h3⟩
/-- a clock as an element of a slice -/
def rdU1 (w : World) (S : Blocks) (l : List Nat) (cs : List Value) : Prop := ∃ v, cs = [v] ∧ RdU w S l v
theorem rdU1_keeps : Keeps rdU1 := fun w w' S S' x cs hS hk h => by
  obtain ⟨v, rfl, r⟩ := h
  exact ⟨v, rfl, r.keep Flat.keeps hS hk⟩
abbrev RdUs := RdL rdU1 1 24
abbrev OwnUs := OwnL rdU1 1
theorem infoUs : (Try.prog.info? 65).map (fun i => (i.zero, i.size, i.bytes)) = some (some (.slice none 0 0), 1, 24) := by kernel_rfl
theorem zeroUs (w : World) : (zeroValue 65).run Try.prog w = .ok (.slice none 0 0) w := by kernel_rfl
/-- a clock that lies neither in the map nor in the row of what has been told -/
def Ok2 (B : Nat) (o : Value) (w : World) (c : List Nat) (v : Value) : Prop := ∃ T, Sub T (Upto w.heap.size) ∧ ¬ T B ∧ (∀ k, o.ownBlock = some k → ¬ T k) ∧ RdU w T c v
abbrev HMap (w : World) (B n : Nat) (f : Int → Value) : Prop := OwnM Try.prog w 3 (.slice none 0 0) B n f
structure HbM (base B n : Nat) (g : Int → List Nat) (f : Int → Value) (o : Value) (L : List (List Nat)) (w : World) : Prop where
  own : HMap w B n f
  ge : base ≤ B
  le : base ≤ w.heap.size
  row : OwnUs 65 w base (fun b => base ≤ b ∧ b ≠ B) L o
  nb : ∀ k, o.ownBlock = some k → k ≠ B
  fam : ∀ a, kn a = true → Ok2 B o w (g a) (f a)
section
variable {base B n : Nat} {g : Int → List Nat} {f : Int → Value} {o : Value} {L : List (List Nat)} {w w' : World} {c : List Nat} {v : Value}
theorem Ok2.below (h : Ok2 B o w c v) (hb : Below w.heap.size w w') : Ok2 B o w' c v := by
  obtain ⟨T, h1, h2, h3, h4⟩ := h
  exact ⟨T, h1.lift hb.size, h2, h3, h4.go Flat.keeps hb h1 (Sub.refl _)⟩
theorem Ok2.but (h : Ok2 B o w c v) (hb : But (Is B) w w') : Ok2 B o w' c v := by
  obtain ⟨T, h1, h2, h3, h4⟩ := h
  refine ⟨T, h1.lift hb.size, h2, h3, h4.keep Flat.keeps (Sub.refl _) (hb.same h1 fun k hk e => ?_)⟩
  have e : k = B := e
  subst e; exact h2 hk
theorem Ok2.rd (h : Ok2 B o w c v) : RdU w (Upto w.heap.size) c v := by
  obtain ⟨T, h1, _, _, h4⟩ := h
  exact h4.sub Flat.keeps h1
/-- what has just been made -/
theorem HbM.fresh (h : HbM base B n g f o L w) (hb : Below w.heap.size w w') (r : RdU w' (Plus Nowhere w.heap.size w'.heap.size) c v) : Ok2 B o w' c v := by
  refine ⟨_, Sub.plus_to (Sub.nowhere (Upto w.heap.size)) hb.size (Nat.le_refl _), ?_, fun k hk => ?_, r⟩
  · have := h.own.lt
    exact not_plus (S := Nowhere) (n := 0) (Sub.nowhere _) (Nat.zero_le _) (.inl this)
  · have := (h.row.lt k hk).2
    exact not_plus (S := Nowhere) (n := 0) (Sub.nowhere _) (Nat.zero_le _) (.inl this)
theorem HbM.below (h : HbM base B n g f o L w) (hb : Below w.heap.size w w') : HbM base B n g f o L w' :=
  ⟨h.own.below hb, h.ge, Nat.le_trans h.le hb.size, h.row.keep rdU1_keeps hb, h.nb, fun a ha => (h.fam a ha).below hb⟩
theorem HbM.congr (h : HbM base B n g f o L w) {g' : Int → List Nat} (hg : ∀ a, kn a = true → g a = g' a) : HbM base B n g' f o L w :=
  ⟨h.own, h.ge, h.le, h.row, h.nb, fun a ha => by rw [← hg a ha]; exact h.fam a ha⟩
theorem HbM.more (h : HbM base B n g f o L w) {n' : Nat} (hn : n ≤ n') : HbM base B n' g f o L w := ⟨h.own.more hn, h.ge, h.le, h.row, h.nb, h.fam⟩
theorem HbM.newT (h : HbM base B n g f o L w) (hb : Below w.heap.size w w') : Sub (Plus Nowhere w.heap.size w'.heap.size) (fun b => base ≤ b ∧ b ≠ B) ∧ Sub (Plus Nowhere w.heap.size w'.heap.size) (Upto w'.heap.size) ∧ ∀ k, o.ownBlock = some k → ¬ Plus Nowhere w.heap.size w'.heap.size k := by
  have h1 := h.own.lt
  have h2 := h.le
  refine ⟨fun b hb => ?_, Sub.plus_to (Sub.nowhere (Upto w.heap.size)) hb.size (Nat.le_refl _), fun k hk => ?_⟩
  · rcases hb with hb | hb
    · exact hb.elim
    · exact ⟨by omega, by omega⟩
  · have := (h.row.lt k hk).2
    exact not_plus (S := Nowhere) (n := 0) (Sub.nowhere _) (Nat.zero_le _) (.inl this)
/-- behind 'm[a] = v' -/
theorem HbM.put (h : HbM base B n g f o L w) (hv : Ok2 B o w c v) (a : Int) (hm : HMap w' B (n + 1) (updV f a v)) (hg : w.grownBy w' (some B)) :
    HbM base B (n + 1) (updV g a c) (updV f a v) o L w' ∧ But (Is B) w w' := by
  have hb : But (Is B) w w' := (But.of_grown hg).sub fun b e => (Option.some.inj e).symm
  refine ⟨⟨hm, h.ge, Nat.le_trans h.le hb.size, ?_, h.nb, fun x hx => ?_⟩, hb⟩
  · refine h.row.kept rdU1_keeps hg ?_ ?_
    · cases e : o.ownBlock
      · exact .inl rfl
      · exact .inr (fun e2 => h.nb _ e (Option.some.inj e2))
    · intro k hk hS
      exact hS.2 (Option.some.inj hk).symm
  · by_cases e : x = a
    · subst e
      rw [updV_same, updV_same]
      exact hv.but hb
    · rw [updV_other _ _ e, updV_other _ _ e]
      exact (h.fam x hx).but hb
/-- behind 'out = append(out, x)' -/
theorem HbM.push {x : List Nat} {o' : Value} (h : HbM base B n g f o L w) (ho : OwnUs 65 w' base (fun b => base ≤ b ∧ b ≠ B) (L ++ [x]) o') (hg : w.grownBy w' o.ownBlock) (h3 : o'.ownBlock = o.ownBlock ∨ o'.ownBlock = some (w.heap.size + 1)) :
    HbM base B n g f o' (L ++ [x]) w' ∧ Below base w w' := by
  have hb : Below base w w' := (Below.refl base w).grown hg h.le (fun k hk => (h.row.lt k hk).1)
  have hbut := But.of_grown hg
  refine ⟨⟨h.own.grown hg (fun e => h.nb B e.symm rfl), h.ge, Nat.le_trans h.le hb.size, ho, ?_, fun a ha => ?_⟩, hb⟩
  · intro k hk e
    subst e
    rcases h3 with h3 | h3
    · rw [h3] at hk; exact h.nb k hk rfl
    · rw [h3] at hk
      have := h.own.lt
      have e := Option.some.inj hk
      omega
  · obtain ⟨T, h1, h2, h4, h5⟩ := h.fam a ha
    refine ⟨T, h1.lift hbut.size, h2, ?_, h5.keep Flat.keeps (Sub.refl _) (hbut.same h1 fun k hk e => h4 k e hk)⟩
    intro k hk hT
    rcases h3 with h3 | h3
    · rw [h3] at hk; exact h4 k hk hT
    · rw [h3] at hk
      have e := Option.some.inj hk
      have := h1 k hT
      unfold Upto at this
      omega
end
set_option maxHeartbeats 400000 in
theorem known_any (n : Int) (w : World) : Calls Try.prog 26 #[.int .i64 n] w fun e w' => e = .returned (.bool (kn n)) ∧ w = w' := by
  by_cases h0 : 0 ≤ n
  · by_cases h1 : n < 200
    · have HK := Lib.hid (show kn n = true by simp [kn, h0, h1])
      go_enter Try.func26, Try.ntmps26
      go_wp2
      go_ret
      exact ⟨by rw [HK.out]; rfl, rfl⟩
    · have HK := Lib.hid (show kn n = false by simp [kn, h0]; omega)
      go_enter Try.func26, Try.ntmps26
      go_wp2
      go_ret
      exact ⟨by rw [HK.out]; rfl, rfl⟩
  · have HK := Lib.hid (show kn n = false by simp [kn, h0])
    go_enter Try.func26, Try.ntmps26
    go_wp2
    go_ret
    exact ⟨by rw [HK.out]; rfl, rfl⟩
set_option maxHeartbeats 400000 in
theorem scount_any (n : Int) (w : World) : Calls Try.prog 29 #[.int .i64 n] w fun e w' => e = .returned (.bool (kn n)) ∧ w = w' := by
  by_cases h0 : 0 ≤ n
  · by_cases h1 : n < 200
    · have HK := Lib.hid (show kn n = true by simp [kn, h0, h1])
      go_enter Try.func29, Try.ntmps29
      go_wp2
      go_ret
      exact ⟨by rw [HK.out]; rfl, rfl⟩
    · have HK := Lib.hid (show kn n = false by simp [kn, h0]; omega)
      go_enter Try.func29, Try.ntmps29
      go_wp2
      go_ret
      exact ⟨by rw [HK.out]; rfl, rfl⟩
  · have HK := Lib.hid (show kn n = false by simp [kn, h0])
    go_enter Try.func29, Try.ntmps29
    go_wp2
    go_ret
    exact ⟨by rw [HK.out]; rfl, rfl⟩
end Go.Proofs.Ytikjegfjgfhiaaa
