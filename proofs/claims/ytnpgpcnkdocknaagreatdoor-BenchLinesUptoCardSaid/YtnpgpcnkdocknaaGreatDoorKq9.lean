/- The reader of KParse: stmt (printed by wip/tools/gen_kq9.py). -/
import Derived.Test.YtnpgpcnkdocknaaGreatDoorGKq8
import Derived.BigQuiet
namespace Go.Proofs.YtnpgpcnkdocknaaGreatDoor
open Go.RowKit
set_option linter.unusedVariables false
def FormsAt (W : World) (d fb : Nat) : Prop := (∀ (i : Nat) (h : i < 7), ∃ b9, d < b9 ∧ b9 < W.heap.size ∧ W.cell? ⟨fb, i * 2, none⟩ = some (.int .i64 (formsP[i]'h).1) ∧ W.cell? ⟨fb, i * 2 + 1, none⟩ = some (.slice (some ⟨b9, 0, none⟩) (formsP[i]'h).2.length (formsP[i]'h).2.length) ∧
 RdSs W (Is b9) ((formsP[i]'h).2.map strP) (.slice (some ⟨b9, 0, none⟩) (formsP[i]'h).2.length (formsP[i]'h).2.length)) ∧ d < fb ∧ fb < W.heap.size
theorem FormsAt.below {W W' : World} {d fb : Nat} (h : FormsAt W d fb) (hb : Below W.heap.size W W') : FormsAt W' d fb := by
 refine ⟨fun i hi => ?_, h.2.1, Nat.lt_of_lt_of_le h.2.2 hb.size⟩
 obtain ⟨b9, h1, h2, h3, h4, h5⟩ := h.1 i hi
 exact ⟨b9, h1, Nat.lt_of_lt_of_le h2 hb.size, (hb.cell (p := ⟨fb, i * 2, none⟩) h.2.2).trans h3, (hb.cell (p := ⟨fb, i * 2 + 1, none⟩) h.2.2).trans h4, h5.go Flat.keeps hb (fun j hj => by unfold Is at hj; subst hj; exact h2) (Sub.refl _)⟩
theorem FormsAt.but {W W' : World} {d fb k : Nat} (h : FormsAt W d fb) (hb : But (Is k) W W') (hk : k < d) : FormsAt W' d fb := by
 have hd := h.2.1
 refine ⟨fun i hi => ?_, h.2.1, Nat.lt_of_lt_of_le h.2.2 hb.size⟩
 obtain ⟨b9, h1, h2, h3, h4, h5⟩ := h.1 i hi
 exact ⟨b9, h1, Nat.lt_of_lt_of_le h2 hb.size, hb.cell (p := ⟨fb, i * 2, none⟩) (fun e => by unfold Is at e; simp only at e; omega) h3, hb.cell (p := ⟨fb, i * 2 + 1, none⟩) (fun e => by unfold Is at e; simp only at e; omega) h4, h5.keep Flat.keeps (Sub.refl _) (hb.same (fun j hj => by unfold Is at hj; subst hj; exact h2) (fun j hj e => by unfold Is at hj e; omega))⟩
theorem forms_words : ∀ f ∈ formsP, ∀ x, Pt'.w x ∈ f.2 → wordP x := by
 intro f hf x hx
 simp only [formsP, List.mem_cons, List.not_mem_nil, or_false] at hf
 rcases hf with rfl | rfl | rfl | rfl | rfl | rfl | rfl <;> simp only [List.mem_cons, List.not_mem_nil, or_false, Pt'.w.injEq, reduceCtorEq, false_or] at hx <;> (try rcases hx with rfl | rfl | rfl | rfl | rfl) <;> (try rcases hx with rfl | rfl | rfl | rfl) <;> (try rcases hx with rfl | rfl | rfl) <;> (try rcases hx with rfl | rfl) <;> (try subst hx) <;> (unfold wordP okS; simp only [tl_bz]; decide)
theorem forms_kind : ∀ f ∈ formsP, inI f.1 ∧ f.2.length ≤ 100 := by
 intro f hf
 simp only [formsP, List.mem_cons, List.not_mem_nil, or_false] at hf
 rcases hf with rfl | rfl | rfl | rfl | rfl | rfl | rfl <;> (unfold inI; decide)
theorem forms_made (w : World) : FormsAt (((((((((w.alloc (.cells #[.int .i64 0, .string ⟨#[]⟩, .int .i64 0, .int .i64 0, .string ⟨#[]⟩, .slice none 0 0, .int .i64 0, .int .i64 0, .string ⟨#[]⟩, .slice none 0 0, .slice none 0 0, .slice none 0 0] 82)).alloc (.cells #[.string ⟨#[108, 101, 116]⟩, .string ⟨#[110]⟩, .string ⟨#[61]⟩, .string ⟨#[97]⟩, .string ⟨#[59]⟩] 9)).alloc (.cells #[.string ⟨#[108, 111, 97, 100]⟩, .string ⟨#[110]⟩, .string ⟨#[61]⟩, .string ⟨#[91]⟩, .string ⟨#[97]⟩, .string ⟨#[93]⟩, .string ⟨#[59]⟩] 9)).alloc (.cells #[.string ⟨#[115, 116, 111, 114, 101]⟩, .string ⟨#[91]⟩, .string ⟨#[97]⟩, .string ⟨#[93]⟩, .string ⟨#[61]⟩, .string ⟨#[98]⟩, .string ⟨#[59]⟩] 9)).alloc (.cells #[.string ⟨#[97, 115, 121, 110, 99]⟩, .string ⟨#[66]⟩] 9)).alloc (.cells #[.string ⟨#[102, 105, 110, 105, 115, 104]⟩, .string ⟨#[66]⟩] 9)).alloc (.cells #[.string ⟨#[105, 102]⟩, .string ⟨#[97]⟩, .string ⟨#[66]⟩] 9)).alloc (.cells #[.string ⟨#[102, 111, 114]⟩, .string ⟨#[110]⟩, .string ⟨#[61]⟩, .string ⟨#[97]⟩, .string ⟨#[116, 111]⟩, .string ⟨#[98]⟩, .string ⟨#[66]⟩] 9)).alloc (.cells #[.int .i64 1, .slice (some ⟨w.heap.size + 1, 0, none⟩) 5 5, .int .i64 2, .slice (some ⟨w.heap.size + 1 + 1, 0, none⟩) 7 7, .int .i64 3, .slice (some ⟨w.heap.size + 1 + 1 + 1, 0, none⟩) 7 7, .int .i64 4, .slice (some ⟨w.heap.size + 1 + 1 + 1 + 1, 0, none⟩) 2 2, .int .i64 5, .slice (some ⟨w.heap.size + 1 + 1 + 1 + 1 + 1, 0, none⟩) 2 2, .int .i64 6, .slice (some ⟨w.heap.size + 1 + 1 + 1 + 1 + 1 + 1, 0, none⟩) 3 3, .int .i64 7, .slice (some ⟨w.heap.size + 1 + 1 + 1 + 1 + 1 + 1 + 1, 0, none⟩) 7 7] 113)) w.heap.size (w.heap.size + 1 + 1 + 1 + 1 + 1 + 1 + 1 + 1) ∧ Below w.heap.size w (((((((((w.alloc (.cells #[.int .i64 0, .string ⟨#[]⟩, .int .i64 0, .int .i64 0, .string ⟨#[]⟩, .slice none 0 0, .int .i64 0, .int .i64 0, .string ⟨#[]⟩, .slice none 0 0, .slice none 0 0, .slice none 0 0] 82)).alloc (.cells #[.string ⟨#[108, 101, 116]⟩, .string ⟨#[110]⟩, .string ⟨#[61]⟩, .string ⟨#[97]⟩, .string ⟨#[59]⟩] 9)).alloc (.cells #[.string ⟨#[108, 111, 97, 100]⟩, .string ⟨#[110]⟩, .string ⟨#[61]⟩, .string ⟨#[91]⟩, .string ⟨#[97]⟩, .string ⟨#[93]⟩, .string ⟨#[59]⟩] 9)).alloc (.cells #[.string ⟨#[115, 116, 111, 114, 101]⟩, .string ⟨#[91]⟩, .string ⟨#[97]⟩, .string ⟨#[93]⟩, .string ⟨#[61]⟩, .string ⟨#[98]⟩, .string ⟨#[59]⟩] 9)).alloc (.cells #[.string ⟨#[97, 115, 121, 110, 99]⟩, .string ⟨#[66]⟩] 9)).alloc (.cells #[.string ⟨#[102, 105, 110, 105, 115, 104]⟩, .string ⟨#[66]⟩] 9)).alloc (.cells #[.string ⟨#[105, 102]⟩, .string ⟨#[97]⟩, .string ⟨#[66]⟩] 9)).alloc (.cells #[.string ⟨#[102, 111, 114]⟩, .string ⟨#[110]⟩, .string ⟨#[61]⟩, .string ⟨#[97]⟩, .string ⟨#[116, 111]⟩, .string ⟨#[98]⟩, .string ⟨#[66]⟩] 9)).alloc (.cells #[.int .i64 1, .slice (some ⟨w.heap.size + 1, 0, none⟩) 5 5, .int .i64 2, .slice (some ⟨w.heap.size + 1 + 1, 0, none⟩) 7 7, .int .i64 3, .slice (some ⟨w.heap.size + 1 + 1 + 1, 0, none⟩) 7 7, .int .i64 4, .slice (some ⟨w.heap.size + 1 + 1 + 1 + 1, 0, none⟩) 2 2, .int .i64 5, .slice (some ⟨w.heap.size + 1 + 1 + 1 + 1 + 1, 0, none⟩) 2 2, .int .i64 6, .slice (some ⟨w.heap.size + 1 + 1 + 1 + 1 + 1 + 1, 0, none⟩) 3 3, .int .i64 7, .slice (some ⟨w.heap.size + 1 + 1 + 1 + 1 + 1 + 1 + 1, 0, none⟩) 7 7] 113)) ∧ Blk 0 (((((((((w.alloc (.cells #[.int .i64 0, .string ⟨#[]⟩, .int .i64 0, .int .i64 0, .string ⟨#[]⟩, .slice none 0 0, .int .i64 0, .int .i64 0, .string ⟨#[]⟩, .slice none 0 0, .slice none 0 0, .slice none 0 0] 82)).alloc (.cells #[.string ⟨#[108, 101, 116]⟩, .string ⟨#[110]⟩, .string ⟨#[61]⟩, .string ⟨#[97]⟩, .string ⟨#[59]⟩] 9)).alloc (.cells #[.string ⟨#[108, 111, 97, 100]⟩, .string ⟨#[110]⟩, .string ⟨#[61]⟩, .string ⟨#[91]⟩, .string ⟨#[97]⟩, .string ⟨#[93]⟩, .string ⟨#[59]⟩] 9)).alloc (.cells #[.string ⟨#[115, 116, 111, 114, 101]⟩, .string ⟨#[91]⟩, .string ⟨#[97]⟩, .string ⟨#[93]⟩, .string ⟨#[61]⟩, .string ⟨#[98]⟩, .string ⟨#[59]⟩] 9)).alloc (.cells #[.string ⟨#[97, 115, 121, 110, 99]⟩, .string ⟨#[66]⟩] 9)).alloc (.cells #[.string ⟨#[102, 105, 110, 105, 115, 104]⟩, .string ⟨#[66]⟩] 9)).alloc (.cells #[.string ⟨#[105, 102]⟩, .string ⟨#[97]⟩, .string ⟨#[66]⟩] 9)).alloc (.cells #[.string ⟨#[102, 111, 114]⟩, .string ⟨#[110]⟩, .string ⟨#[61]⟩, .string ⟨#[97]⟩, .string ⟨#[116, 111]⟩, .string ⟨#[98]⟩, .string ⟨#[66]⟩] 9)).alloc (.cells #[.int .i64 1, .slice (some ⟨w.heap.size + 1, 0, none⟩) 5 5, .int .i64 2, .slice (some ⟨w.heap.size + 1 + 1, 0, none⟩) 7 7, .int .i64 3, .slice (some ⟨w.heap.size + 1 + 1 + 1, 0, none⟩) 7 7, .int .i64 4, .slice (some ⟨w.heap.size + 1 + 1 + 1 + 1, 0, none⟩) 2 2, .int .i64 5, .slice (some ⟨w.heap.size + 1 + 1 + 1 + 1 + 1, 0, none⟩) 2 2, .int .i64 6, .slice (some ⟨w.heap.size + 1 + 1 + 1 + 1 + 1 + 1, 0, none⟩) 3 3, .int .i64 7, .slice (some ⟨w.heap.size + 1 + 1 + 1 + 1 + 1 + 1 + 1, 0, none⟩) 7 7] 113)) w.heap.size [.int .i64 0, .string ⟨#[]⟩, .int .i64 0, .int .i64 0, .string ⟨#[]⟩, .slice none 0 0, .int .i64 0, .int .i64 0, .string ⟨#[]⟩, .slice none 0 0, .slice none 0 0, .slice none 0 0] := by
 have r9 := Blk.made w [.int .i64 0, .string ⟨#[]⟩, .int .i64 0, .int .i64 0, .string ⟨#[]⟩, .slice none 0 0, .int .i64 0, .int .i64 0, .string ⟨#[]⟩, .slice none 0 0, .slice none 0 0, .slice none 0 0] 82 (base := 0) (Nat.zero_le _)
 obtain ⟨w1, hw1⟩ : ∃ x, x = w.alloc (.cells #[.int .i64 0, .string ⟨#[]⟩, .int .i64 0, .int .i64 0, .string ⟨#[]⟩, .slice none 0 0, .int .i64 0, .int .i64 0, .string ⟨#[]⟩, .slice none 0 0, .slice none 0 0, .slice none 0 0] 82) := ⟨_, rfl⟩
 change Blk 0 (w.alloc (.cells #[.int .i64 0, .string ⟨#[]⟩, .int .i64 0, .int .i64 0, .string ⟨#[]⟩, .slice none 0 0, .int .i64 0, .int .i64 0, .string ⟨#[]⟩, .slice none 0 0, .slice none 0 0, .slice none 0 0] 82)) w.heap.size [.int .i64 0, .string ⟨#[]⟩, .int .i64 0, .int .i64 0, .string ⟨#[]⟩, .slice none 0 0, .int .i64 0, .int .i64 0, .string ⟨#[]⟩, .slice none 0 0, .slice none 0 0, .slice none 0 0] at r9
 rw [← hw1] at r9 ⊢
 have e1 : w1.heap.size = w.heap.size + 1 := by rw [hw1]; simp
 have k1 : Below w.heap.size w w1 := by rw [hw1]; exact (Below.refl _ _).alloc (Nat.le_refl _) _
 clear hw1
 obtain ⟨w2, hw2⟩ : ∃ x, x = w1.alloc (.cells #[.string ⟨#[108, 101, 116]⟩, .string ⟨#[110]⟩, .string ⟨#[61]⟩, .string ⟨#[97]⟩, .string ⟨#[59]⟩] 9) := ⟨_, rfl⟩
 rw [← hw2]
 have b2 : Below w1.heap.size w1 w2 := by rw [hw2]; exact (Below.refl _ _).alloc (Nat.le_refl _) _
 have r0 : RdSs w2 (Is (w.heap.size + 1)) [(⟨#[108, 101, 116]⟩ : Str), (⟨#[110]⟩ : Str), (⟨#[61]⟩ : Str), (⟨#[97]⟩ : Str), (⟨#[59]⟩ : Str)] (.slice (some ⟨w.heap.size + 1, 0, none⟩) 5 5) := by
  rw [hw2, ← e1]; exact rd_words w1 [(⟨#[108, 101, 116]⟩ : Str), (⟨#[110]⟩ : Str), (⟨#[61]⟩ : Str), (⟨#[97]⟩ : Str), (⟨#[59]⟩ : Str)] (by intro s hs; simp only [List.mem_cons, List.not_mem_nil, or_false] at hs; rcases hs with rfl | rfl | rfl | rfl | rfl <;> (unfold okS; decide)) (by decide)
 have e2 : w2.heap.size = w.heap.size + 1 + 1 := by rw [hw2]; simp [e1]
 have k2 : Below w.heap.size w w2 := k1.trans (b2.mono k1.size)
 replace r9 := r9.below b2
 clear hw2 b2
 obtain ⟨w3, hw3⟩ : ∃ x, x = w2.alloc (.cells #[.string ⟨#[108, 111, 97, 100]⟩, .string ⟨#[110]⟩, .string ⟨#[61]⟩, .string ⟨#[91]⟩, .string ⟨#[97]⟩, .string ⟨#[93]⟩, .string ⟨#[59]⟩] 9) := ⟨_, rfl⟩
 rw [← hw3]
 have b3 : Below w2.heap.size w2 w3 := by rw [hw3]; exact (Below.refl _ _).alloc (Nat.le_refl _) _
 have r1 : RdSs w3 (Is (w.heap.size + 1 + 1)) [(⟨#[108, 111, 97, 100]⟩ : Str), (⟨#[110]⟩ : Str), (⟨#[61]⟩ : Str), (⟨#[91]⟩ : Str), (⟨#[97]⟩ : Str), (⟨#[93]⟩ : Str), (⟨#[59]⟩ : Str)] (.slice (some ⟨w.heap.size + 1 + 1, 0, none⟩) 7 7) := by
  rw [hw3, ← e2]; exact rd_words w2 [(⟨#[108, 111, 97, 100]⟩ : Str), (⟨#[110]⟩ : Str), (⟨#[61]⟩ : Str), (⟨#[91]⟩ : Str), (⟨#[97]⟩ : Str), (⟨#[93]⟩ : Str), (⟨#[59]⟩ : Str)] (by intro s hs; simp only [List.mem_cons, List.not_mem_nil, or_false] at hs; rcases hs with rfl | rfl | rfl | rfl | rfl | rfl | rfl <;> (unfold okS; decide)) (by decide)
 have e3 : w3.heap.size = w.heap.size + 1 + 1 + 1 := by rw [hw3]; simp [e2]
 have k3 : Below w.heap.size w w3 := k2.trans (b3.mono k2.size)
 replace r9 := r9.below b3
 replace r0 := RdL.go r0 Flat.keeps b3 (fun x hx => by unfold Is at hx; unfold Upto; omega) (Sub.refl _)
 clear hw3 b3
 obtain ⟨w4, hw4⟩ : ∃ x, x = w3.alloc (.cells #[.string ⟨#[115, 116, 111, 114, 101]⟩, .string ⟨#[91]⟩, .string ⟨#[97]⟩, .string ⟨#[93]⟩, .string ⟨#[61]⟩, .string ⟨#[98]⟩, .string ⟨#[59]⟩] 9) := ⟨_, rfl⟩
 rw [← hw4]
 have b4 : Below w3.heap.size w3 w4 := by rw [hw4]; exact (Below.refl _ _).alloc (Nat.le_refl _) _
 have r2 : RdSs w4 (Is (w.heap.size + 1 + 1 + 1)) [(⟨#[115, 116, 111, 114, 101]⟩ : Str), (⟨#[91]⟩ : Str), (⟨#[97]⟩ : Str), (⟨#[93]⟩ : Str), (⟨#[61]⟩ : Str), (⟨#[98]⟩ : Str), (⟨#[59]⟩ : Str)] (.slice (some ⟨w.heap.size + 1 + 1 + 1, 0, none⟩) 7 7) := by
  rw [hw4, ← e3]; exact rd_words w3 [(⟨#[115, 116, 111, 114, 101]⟩ : Str), (⟨#[91]⟩ : Str), (⟨#[97]⟩ : Str), (⟨#[93]⟩ : Str), (⟨#[61]⟩ : Str), (⟨#[98]⟩ : Str), (⟨#[59]⟩ : Str)] (by intro s hs; simp only [List.mem_cons, List.not_mem_nil, or_false] at hs; rcases hs with rfl | rfl | rfl | rfl | rfl | rfl | rfl <;> (unfold okS; decide)) (by decide)
 have e4 : w4.heap.size = w.heap.size + 1 + 1 + 1 + 1 := by rw [hw4]; simp [e3]
 have k4 : Below w.heap.size w w4 := k3.trans (b4.mono k3.size)
 replace r9 := r9.below b4
 replace r0 := RdL.go r0 Flat.keeps b4 (fun x hx => by unfold Is at hx; unfold Upto; omega) (Sub.refl _)
 replace r1 := RdL.go r1 Flat.keeps b4 (fun x hx => by unfold Is at hx; unfold Upto; omega) (Sub.refl _)
 clear hw4 b4
 obtain ⟨w5, hw5⟩ : ∃ x, x = w4.alloc (.cells #[.string ⟨#[97, 115, 121, 110, 99]⟩, .string ⟨#[66]⟩] 9) := ⟨_, rfl⟩
 rw [← hw5]
 have b5 : Below w4.heap.size w4 w5 := by rw [hw5]; exact (Below.refl _ _).alloc (Nat.le_refl _) _
 have r3 : RdSs w5 (Is (w.heap.size + 1 + 1 + 1 + 1)) [(⟨#[97, 115, 121, 110, 99]⟩ : Str), (⟨#[66]⟩ : Str)] (.slice (some ⟨w.heap.size + 1 + 1 + 1 + 1, 0, none⟩) 2 2) := by
  rw [hw5, ← e4]; exact rd_words w4 [(⟨#[97, 115, 121, 110, 99]⟩ : Str), (⟨#[66]⟩ : Str)] (by intro s hs; simp only [List.mem_cons, List.not_mem_nil, or_false] at hs; rcases hs with rfl | rfl <;> (unfold okS; decide)) (by decide)
 have e5 : w5.heap.size = w.heap.size + 1 + 1 + 1 + 1 + 1 := by rw [hw5]; simp [e4]
 have k5 : Below w.heap.size w w5 := k4.trans (b5.mono k4.size)
 replace r9 := r9.below b5
 replace r0 := RdL.go r0 Flat.keeps b5 (fun x hx => by unfold Is at hx; unfold Upto; omega) (Sub.refl _)
 replace r1 := RdL.go r1 Flat.keeps b5 (fun x hx => by unfold Is at hx; unfold Upto; omega) (Sub.refl _)
 replace r2 := RdL.go r2 Flat.keeps b5 (fun x hx => by unfold Is at hx; unfold Upto; omega) (Sub.refl _)
 clear hw5 b5
 obtain ⟨w6, hw6⟩ : ∃ x, x = w5.alloc (.cells #[.string ⟨#[102, 105, 110, 105, 115, 104]⟩, .string ⟨#[66]⟩] 9) := ⟨_, rfl⟩
 rw [← hw6]
 have b6 : Below w5.heap.size w5 w6 := by rw [hw6]; exact (Below.refl _ _).alloc (Nat.le_refl _) _
 have r4 : RdSs w6 (Is (w.heap.size + 1 + 1 + 1 + 1 + 1)) [(⟨#[102, 105, 110, 105, 115, 104]⟩ : Str), (⟨#[66]⟩ : Str)] (.slice (some ⟨w.heap.size + 1 + 1 + 1 + 1 + 1, 0, none⟩) 2 2) := by
  rw [hw6, ← e5]; exact rd_words w5 [(⟨#[102, 105, 110, 105, 115, 104]⟩ : Str), (⟨#[66]⟩ : Str)] (by intro s hs; simp only [List.mem_cons, List.not_mem_nil, or_false] at hs; rcases hs with rfl | rfl <;> (unfold okS; decide)) (by decide)
 have e6 : w6.heap.size = w.heap.size + 1 + 1 + 1 + 1 + 1 + 1 := by rw [hw6]; simp [e5]
 have k6 : Below w.heap.size w w6 := k5.trans (b6.mono k5.size)
 replace r9 := r9.below b6
 replace r0 := RdL.go r0 Flat.keeps b6 (fun x hx => by unfold Is at hx; unfold Upto; omega) (Sub.refl _)
 replace r1 := RdL.go r1 Flat.keeps b6 (fun x hx => by unfold Is at hx; unfold Upto; omega) (Sub.refl _)
 replace r2 := RdL.go r2 Flat.keeps b6 (fun x hx => by unfold Is at hx; unfold Upto; omega) (Sub.refl _)
 replace r3 := RdL.go r3 Flat.keeps b6 (fun x hx => by unfold Is at hx; unfold Upto; omega) (Sub.refl _)
 clear hw6 b6
 obtain ⟨w7, hw7⟩ : ∃ x, x = w6.alloc (.cells #[.string ⟨#[105, 102]⟩, .string ⟨#[97]⟩, .string ⟨#[66]⟩] 9) := ⟨_, rfl⟩
 rw [← hw7]
 have b7 : Below w6.heap.size w6 w7 := by rw [hw7]; exact (Below.refl _ _).alloc (Nat.le_refl _) _
 have r5 : RdSs w7 (Is (w.heap.size + 1 + 1 + 1 + 1 + 1 + 1)) [(⟨#[105, 102]⟩ : Str), (⟨#[97]⟩ : Str), (⟨#[66]⟩ : Str)] (.slice (some ⟨w.heap.size + 1 + 1 + 1 + 1 + 1 + 1, 0, none⟩) 3 3) := by
  rw [hw7, ← e6]; exact rd_words w6 [(⟨#[105, 102]⟩ : Str), (⟨#[97]⟩ : Str), (⟨#[66]⟩ : Str)] (by intro s hs; simp only [List.mem_cons, List.not_mem_nil, or_false] at hs; rcases hs with rfl | rfl | rfl <;> (unfold okS; decide)) (by decide)
 have e7 : w7.heap.size = w.heap.size + 1 + 1 + 1 + 1 + 1 + 1 + 1 := by rw [hw7]; simp [e6]
 have k7 : Below w.heap.size w w7 := k6.trans (b7.mono k6.size)
 replace r9 := r9.below b7
 replace r0 := RdL.go r0 Flat.keeps b7 (fun x hx => by unfold Is at hx; unfold Upto; omega) (Sub.refl _)
 replace r1 := RdL.go r1 Flat.keeps b7 (fun x hx => by unfold Is at hx; unfold Upto; omega) (Sub.refl _)
 replace r2 := RdL.go r2 Flat.keeps b7 (fun x hx => by unfold Is at hx; unfold Upto; omega) (Sub.refl _)
 replace r3 := RdL.go r3 Flat.keeps b7 (fun x hx => by unfold Is at hx; unfold Upto; omega) (Sub.refl _)
 replace r4 := RdL.go r4 Flat.keeps b7 (fun x hx => by unfold Is at hx; unfold Upto; omega) (Sub.refl _)
 clear hw7 b7
 obtain ⟨w8, hw8⟩ : ∃ x, x = w7.alloc (.cells #[.string ⟨#[102, 111, 114]⟩, .string ⟨#[110]⟩, .string ⟨#[61]⟩, .string ⟨#[97]⟩, .string ⟨#[116, 111]⟩, .string ⟨#[98]⟩, .string ⟨#[66]⟩] 9) := ⟨_, rfl⟩
 rw [← hw8]
 have b8 : Below w7.heap.size w7 w8 := by rw [hw8]; exact (Below.refl _ _).alloc (Nat.le_refl _) _
 have r6 : RdSs w8 (Is (w.heap.size + 1 + 1 + 1 + 1 + 1 + 1 + 1)) [(⟨#[102, 111, 114]⟩ : Str), (⟨#[110]⟩ : Str), (⟨#[61]⟩ : Str), (⟨#[97]⟩ : Str), (⟨#[116, 111]⟩ : Str), (⟨#[98]⟩ : Str), (⟨#[66]⟩ : Str)] (.slice (some ⟨w.heap.size + 1 + 1 + 1 + 1 + 1 + 1 + 1, 0, none⟩) 7 7) := by
  rw [hw8, ← e7]; exact rd_words w7 [(⟨#[102, 111, 114]⟩ : Str), (⟨#[110]⟩ : Str), (⟨#[61]⟩ : Str), (⟨#[97]⟩ : Str), (⟨#[116, 111]⟩ : Str), (⟨#[98]⟩ : Str), (⟨#[66]⟩ : Str)] (by intro s hs; simp only [List.mem_cons, List.not_mem_nil, or_false] at hs; rcases hs with rfl | rfl | rfl | rfl | rfl | rfl | rfl <;> (unfold okS; decide)) (by decide)
 have e8 : w8.heap.size = w.heap.size + 1 + 1 + 1 + 1 + 1 + 1 + 1 + 1 := by rw [hw8]; simp [e7]
 have k8 : Below w.heap.size w w8 := k7.trans (b8.mono k7.size)
 replace r9 := r9.below b8
 replace r0 := RdL.go r0 Flat.keeps b8 (fun x hx => by unfold Is at hx; unfold Upto; omega) (Sub.refl _)
 replace r1 := RdL.go r1 Flat.keeps b8 (fun x hx => by unfold Is at hx; unfold Upto; omega) (Sub.refl _)
 replace r2 := RdL.go r2 Flat.keeps b8 (fun x hx => by unfold Is at hx; unfold Upto; omega) (Sub.refl _)
 replace r3 := RdL.go r3 Flat.keeps b8 (fun x hx => by unfold Is at hx; unfold Upto; omega) (Sub.refl _)
 replace r4 := RdL.go r4 Flat.keeps b8 (fun x hx => by unfold Is at hx; unfold Upto; omega) (Sub.refl _)
 replace r5 := RdL.go r5 Flat.keeps b8 (fun x hx => by unfold Is at hx; unfold Upto; omega) (Sub.refl _)
 clear hw8 b8
 obtain ⟨w9, hw9⟩ : ∃ x, x = w8.alloc (.cells #[.int .i64 1, .slice (some ⟨w.heap.size + 1, 0, none⟩) 5 5, .int .i64 2, .slice (some ⟨w.heap.size + 1 + 1, 0, none⟩) 7 7, .int .i64 3, .slice (some ⟨w.heap.size + 1 + 1 + 1, 0, none⟩) 7 7, .int .i64 4, .slice (some ⟨w.heap.size + 1 + 1 + 1 + 1, 0, none⟩) 2 2, .int .i64 5, .slice (some ⟨w.heap.size + 1 + 1 + 1 + 1 + 1, 0, none⟩) 2 2, .int .i64 6, .slice (some ⟨w.heap.size + 1 + 1 + 1 + 1 + 1 + 1, 0, none⟩) 3 3, .int .i64 7, .slice (some ⟨w.heap.size + 1 + 1 + 1 + 1 + 1 + 1 + 1, 0, none⟩) 7 7] 113) := ⟨_, rfl⟩
 rw [← hw9]
 have b9 : Below w8.heap.size w8 w9 := by rw [hw9]; exact (Below.refl _ _).alloc (Nat.le_refl _) _
 have hF : Blk 0 w9 (w.heap.size + 1 + 1 + 1 + 1 + 1 + 1 + 1 + 1) [.int .i64 1, .slice (some ⟨w.heap.size + 1, 0, none⟩) 5 5, .int .i64 2, .slice (some ⟨w.heap.size + 1 + 1, 0, none⟩) 7 7, .int .i64 3, .slice (some ⟨w.heap.size + 1 + 1 + 1, 0, none⟩) 7 7, .int .i64 4, .slice (some ⟨w.heap.size + 1 + 1 + 1 + 1, 0, none⟩) 2 2, .int .i64 5, .slice (some ⟨w.heap.size + 1 + 1 + 1 + 1 + 1, 0, none⟩) 2 2, .int .i64 6, .slice (some ⟨w.heap.size + 1 + 1 + 1 + 1 + 1 + 1, 0, none⟩) 3 3, .int .i64 7, .slice (some ⟨w.heap.size + 1 + 1 + 1 + 1 + 1 + 1 + 1, 0, none⟩) 7 7] := by rw [hw9, ← e8]; exact Blk.made w8 _ _ (Nat.zero_le _)
 have e9 : w9.heap.size = w.heap.size + 1 + 1 + 1 + 1 + 1 + 1 + 1 + 1 + 1 := by rw [hw9]; simp [e8]
 replace r0 := RdL.go r0 Flat.keeps b9 (fun x hx => by unfold Is at hx; unfold Upto; omega) (Sub.refl _)
 replace r1 := RdL.go r1 Flat.keeps b9 (fun x hx => by unfold Is at hx; unfold Upto; omega) (Sub.refl _)
 replace r2 := RdL.go r2 Flat.keeps b9 (fun x hx => by unfold Is at hx; unfold Upto; omega) (Sub.refl _)
 replace r3 := RdL.go r3 Flat.keeps b9 (fun x hx => by unfold Is at hx; unfold Upto; omega) (Sub.refl _)
 replace r4 := RdL.go r4 Flat.keeps b9 (fun x hx => by unfold Is at hx; unfold Upto; omega) (Sub.refl _)
 replace r5 := RdL.go r5 Flat.keeps b9 (fun x hx => by unfold Is at hx; unfold Upto; omega) (Sub.refl _)
 replace r6 := RdL.go r6 Flat.keeps b9 (fun x hx => by unfold Is at hx; unfold Upto; omega) (Sub.refl _)
 refine ⟨⟨fun i hi => ?_, by omega, by omega⟩, k8.trans (b9.mono k8.size), r9.below b9⟩
 match i, hi with
 | 0, _ => exact ⟨w.heap.size + 1, by omega, by omega, hF.cell 0 _ rfl, hF.cell 1 _ rfl, r0⟩
 | 1, _ => exact ⟨w.heap.size + 1 + 1, by omega, by omega, hF.cell 2 _ rfl, hF.cell 3 _ rfl, r1⟩
 | 2, _ => exact ⟨w.heap.size + 1 + 1 + 1, by omega, by omega, hF.cell 4 _ rfl, hF.cell 5 _ rfl, r2⟩
 | 3, _ => exact ⟨w.heap.size + 1 + 1 + 1 + 1, by omega, by omega, hF.cell 6 _ rfl, hF.cell 7 _ rfl, r3⟩
 | 4, _ => exact ⟨w.heap.size + 1 + 1 + 1 + 1 + 1, by omega, by omega, hF.cell 8 _ rfl, hF.cell 9 _ rfl, r4⟩
 | 5, _ => exact ⟨w.heap.size + 1 + 1 + 1 + 1 + 1 + 1, by omega, by omega, hF.cell 10 _ rfl, hF.cell 11 _ rfl, r5⟩
 | 6, _ => exact ⟨w.heap.size + 1 + 1 + 1 + 1 + 1 + 1 + 1, by omega, by omega, hF.cell 12 _ rfl, hF.cell 13 _ rfl, r6⟩
theorem toE_ {w : World} {S : Blocks} {a : Ex} {k n : Int} {s : Str} {v : Value} (h : RdEx w S a [.int .i64 k, .int .i64 n, .string s, v]) : RdE w S a (exV k n s v) := by
 obtain ⟨k1, n1, s1, args⟩ := a
 obtain ⟨h1, h2, h3, v1, e, h4⟩ := h.open_
 simp only [List.cons.injEq, Value.int.injEq, Value.string.injEq, true_and, and_true] at e
 obtain ⟨rfl, rfl, rfl, rfl⟩ := e
 exact ⟨_, _, _, _, _, rfl, rfl, h1, h2, h3, h4⟩
theorem rdSt.open_ {lo y : Nat} {w : World} {k : Int} {s : Str} {a b : Ex} {l m : List St} {V : Value} (h : rdSt lo y w (.mk k s a b l m) V) : ∃ A1 A2 A3 A4 c1 c2 c3 c4, V = .agg (stC k s a b l m A1 A2 A3 A4 c1 c2 c3 c4).toArray ∧ inI k ∧ s.size ≤ 140737488355328 ∧
    rdE lo y w a (exV a.kind a.num a.name (.slice A1 a.args.length c1)) ∧ rdE lo y w b (exV b.kind b.num b.name (.slice A2 b.args.length c2)) ∧ rdS lo y w l (.slice A3 l.length c3) ∧ rdS lo y w m (.slice A4 m.length c4) := by
 obtain ⟨cs, rfl, hr⟩ := h
 obtain ⟨k1, n1, s1, A1, c1, m1, k2, n2, s2, A2, c2, m2, A3, m3, A4, m4, rfl, h1, h2, ra, rb, rl, rm⟩ := hr.cells
 have xa : RdE w (Rn lo y w) a (exV k1 n1 s1 (.slice A1 c1 m1)) := toE_ ra
 have xb : RdE w (Rn lo y w) b (exV k2 n2 s2 (.slice A2 c2 m2)) := toE_ rb
 obtain ⟨B1, d1, e1⟩ := RdE.form xa
 obtain ⟨B2, d2, e2⟩ := RdE.form xb
 rw [e1] at xa
 rw [e2] at xb
 simp only [Value.agg.injEq, Array.mk.injEq, List.cons.injEq, Value.int.injEq, Value.string.injEq, Value.slice.injEq, true_and, and_true] at e1 e2
 obtain ⟨rfl, rfl, rfl, rfl, rfl, rfl⟩ := e1
 obtain ⟨rfl, rfl, rfl, rfl, rfl, rfl⟩ := e2
 exact ⟨_, _, _, _, _, _, _, _, rfl, h1, h2, xa, xb, rl, rm⟩
theorem KSt.box_ {d : Nat} {z : List Value} {p lo : Nat} {L : List LTok} {g : Nat} {w W : World} {k : Int} {s : Str} {a b : Ex} {l m : List St} {A1 A2 A3 A4 : Option Addr} {c1 c2 c3 c4 : Nat} (hp : RkAt p L W g) (hpl : p < lo) (hwl : w.heap.size ≤ lo) (hwW : w.heap.size ≤ W.heap.size) (hk : inI k) (hs : s.size ≤ 140737488355328) (hb : But (Is p) w W)
    (xa : rdE lo W.heap.size W a (exV a.kind a.num a.name (.slice A1 a.args.length c1))) (xb : rdE lo W.heap.size W b (exV b.kind b.num b.name (.slice A2 b.args.length c2))) (xl : rdS lo W.heap.size W l (.slice A3 l.length c3)) (xm : rdS lo W.heap.size W m (.slice A4 m.length c4)) (hlo : lo ≤ W.heap.size) (hres : z ≠ [] → d ≠ p ∧ Blk 0 W d z) :
    KSt d z p lo W.heap.size L w (W.alloc (.cells (stC k s a b l m A1 A2 A3 A4 c1 c2 c3 c4).toArray 82)) g k s a b l m A1 A2 A3 A4 c1 c2 c3 c4 :=
 have bl : Below W.heap.size W (W.alloc (.cells (stC k s a b l m A1 A2 A3 A4 c1 c2 c3 c4).toArray 82)) := (Below.refl _ _).alloc (Nat.le_refl _) _
 ⟨hpl, hp.lt, hwl, hwW, hk, hs, hb.trans (But.of_b bl), hp.below bl, Blk.made W _ _ (Nat.zero_le _), xa.below bl, xb.below bl, xl.below bl, xm.below bl, Nat.le_trans hlo bl.size, fun hz => ⟨(hres hz).1, Nat.ne_of_lt (hres hz).2.lt, (hres hz).2.below bl⟩⟩
set_option maxHeartbeats 8000000 in
set_option maxRecDepth 100000 in
theorem kqstmt_any (m : Nat) (hn : KSs m) : KSm m := by
 intro k f L w a out ho hne h ha hf
 have hlt := h.lt
 have hll := h.len.1
 rw [begS_heads] at hne
 obtain ⟨f0, hf0, _, hf1, _⟩ := stmt_key (fu := m) (sts := stsG m []) formsP hne
 obtain ⟨t, r, hdr⟩ := isT_ne hf1
 have HEX := hid (show ∃ (i : Nat) (hi : i < 7), isT (headP (formsP[i]'hi)) (L.drop a) = true from by
  obtain ⟨i, hi, rfl⟩ := List.getElem_of_mem hf0
  exact ⟨i, hi, hf1⟩)
 obtain ⟨hFA, hBL, hRS⟩ := forms_made w
 have HF := hid hFA
 have HB := hid (But.of_b (T := Is k) hBL)
 have HP := hid (h.below hBL)
 have HR := hid hRS
 have HE0 := hid ho
 have HN := hid hn
 have HD := hid hdr
 obtain ⟨d, hd⟩ : ∃ d, d = w.heap.size := ⟨_, rfl⟩
 have hdk : ¬ d = k := by omega
 have hkd : k < d := by omega
 have hdw : w.heap.size ≤ d := by omega
 have hzW : w.heap.size ≤ ((((((((((w.alloc (.cells #[.int .i64 0, .string ⟨#[]⟩, .int .i64 0, .int .i64 0, .string ⟨#[]⟩, .slice none 0 0, .int .i64 0, .int .i64 0, .string ⟨#[]⟩, .slice none 0 0, .slice none 0 0, .slice none 0 0] 82)).alloc (.cells #[.string ⟨#[108, 101, 116]⟩, .string ⟨#[110]⟩, .string ⟨#[61]⟩, .string ⟨#[97]⟩, .string ⟨#[59]⟩] 9)).alloc (.cells #[.string ⟨#[108, 111, 97, 100]⟩, .string ⟨#[110]⟩, .string ⟨#[61]⟩, .string ⟨#[91]⟩, .string ⟨#[97]⟩, .string ⟨#[93]⟩, .string ⟨#[59]⟩] 9)).alloc (.cells #[.string ⟨#[115, 116, 111, 114, 101]⟩, .string ⟨#[91]⟩, .string ⟨#[97]⟩, .string ⟨#[93]⟩, .string ⟨#[61]⟩, .string ⟨#[98]⟩, .string ⟨#[59]⟩] 9)).alloc (.cells #[.string ⟨#[97, 115, 121, 110, 99]⟩, .string ⟨#[66]⟩] 9)).alloc (.cells #[.string ⟨#[102, 105, 110, 105, 115, 104]⟩, .string ⟨#[66]⟩] 9)).alloc (.cells #[.string ⟨#[105, 102]⟩, .string ⟨#[97]⟩, .string ⟨#[66]⟩] 9)).alloc (.cells #[.string ⟨#[102, 111, 114]⟩, .string ⟨#[110]⟩, .string ⟨#[61]⟩, .string ⟨#[97]⟩, .string ⟨#[116, 111]⟩, .string ⟨#[98]⟩, .string ⟨#[66]⟩] 9)).alloc (.cells #[.int .i64 1, .slice (some ⟨w.heap.size + 1, 0, none⟩) 5 5, .int .i64 2, .slice (some ⟨w.heap.size + 1 + 1, 0, none⟩) 7 7, .int .i64 3, .slice (some ⟨w.heap.size + 1 + 1 + 1, 0, none⟩) 7 7, .int .i64 4, .slice (some ⟨w.heap.size + 1 + 1 + 1 + 1, 0, none⟩) 2 2, .int .i64 5, .slice (some ⟨w.heap.size + 1 + 1 + 1 + 1 + 1, 0, none⟩) 2 2, .int .i64 6, .slice (some ⟨w.heap.size + 1 + 1 + 1 + 1 + 1 + 1, 0, none⟩) 3 3, .int .i64 7, .slice (some ⟨w.heap.size + 1 + 1 + 1 + 1 + 1 + 1 + 1, 0, none⟩) 7 7] 113))).heap.size := hBL.size
 clear h ho hn hFA hBL hRS hf0 hf1 hdr hne
 go_enter Tryz.func31, Tryz.ntmps31
 go_upto_region 2 with (fail)
 generalize (((((((((w.alloc (.cells #[.int .i64 0, .string ⟨#[]⟩, .int .i64 0, .int .i64 0, .string ⟨#[]⟩, .slice none 0 0, .int .i64 0, .int .i64 0, .string ⟨#[]⟩, .slice none 0 0, .slice none 0 0, .slice none 0 0] 82)).alloc (.cells #[.string ⟨#[108, 101, 116]⟩, .string ⟨#[110]⟩, .string ⟨#[61]⟩, .string ⟨#[97]⟩, .string ⟨#[59]⟩] 9)).alloc (.cells #[.string ⟨#[108, 111, 97, 100]⟩, .string ⟨#[110]⟩, .string ⟨#[61]⟩, .string ⟨#[91]⟩, .string ⟨#[97]⟩, .string ⟨#[93]⟩, .string ⟨#[59]⟩] 9)).alloc (.cells #[.string ⟨#[115, 116, 111, 114, 101]⟩, .string ⟨#[91]⟩, .string ⟨#[97]⟩, .string ⟨#[93]⟩, .string ⟨#[61]⟩, .string ⟨#[98]⟩, .string ⟨#[59]⟩] 9)).alloc (.cells #[.string ⟨#[97, 115, 121, 110, 99]⟩, .string ⟨#[66]⟩] 9)).alloc (.cells #[.string ⟨#[102, 105, 110, 105, 115, 104]⟩, .string ⟨#[66]⟩] 9)).alloc (.cells #[.string ⟨#[105, 102]⟩, .string ⟨#[97]⟩, .string ⟨#[66]⟩] 9)).alloc (.cells #[.string ⟨#[102, 111, 114]⟩, .string ⟨#[110]⟩, .string ⟨#[61]⟩, .string ⟨#[97]⟩, .string ⟨#[116, 111]⟩, .string ⟨#[98]⟩, .string ⟨#[66]⟩] 9)).alloc (.cells #[.int .i64 1, .slice (some ⟨w.heap.size + 1, 0, none⟩) 5 5, .int .i64 2, .slice (some ⟨w.heap.size + 1 + 1, 0, none⟩) 7 7, .int .i64 3, .slice (some ⟨w.heap.size + 1 + 1 + 1, 0, none⟩) 7 7, .int .i64 4, .slice (some ⟨w.heap.size + 1 + 1 + 1 + 1, 0, none⟩) 2 2, .int .i64 5, .slice (some ⟨w.heap.size + 1 + 1 + 1 + 1 + 1, 0, none⟩) 2 2, .int .i64 6, .slice (some ⟨w.heap.size + 1 + 1 + 1 + 1 + 1 + 1, 0, none⟩) 3 3, .int .i64 7, .slice (some ⟨w.heap.size + 1 + 1 + 1 + 1 + 1 + 1 + 1, 0, none⟩) 7 7] 113)) = W9 at *
 rw [← hd] at HF HR ⊢
 generalize hfb : d + 1 + 1 + 1 + 1 + 1 + 1 + 1 + 1 = fb at HF ⊢
 have hfbk : ¬ fb = k := by omega
 clear hfb hd
 go_wp2_with fail
 go_loopw [30] (fun u wr => ∃ i : Nat, i ≤ 7 ∧ u = .int .i64 (i : Int) ∧ Hid (stmtG m (stsG m []) (formsP.drop i) (L.drop a) = some out) ∧ Hid (Below W9.heap.size W9 wr) ∧ Hid (∀ j (hj : j < 7), j < i → isT (headP (formsP[j]'hj)) (L.drop a) = false)) (fun u _ => 7 - (intOf u).toNat)
 case atStart => exact ⟨0, by omega, rfl, HE0, hid (Below.refl _ _), hid (fun j _ h => by omega)⟩
 case round =>
  clear HE0
  obtain ⟨i, hi, rfl, HE, HBW, HNO⟩ := hrel
  by_cases hlt2 : i < 7
  ·have hFr := HF.out.below HBW.out
   obtain ⟨b9, g1, g2, g3, g4, g5⟩ := hFr.1 i hlt2
   have hfbW := hFr.2.2
   have hmem : formsP[i]'hlt2 ∈ formsP := List.getElem_mem hlt2
   have hkk := forms_kind _ hmem
   have hww := forms_words _ hmem
   obtain ⟨kk, x, ps, hfe⟩ := forms_w _ hmem
   have he := HE.out
   rw [List.drop_eq_getElem_cons (show i < formsP.length from hlt2), stmtG] at he
   have hno : isT (headP (formsP[i]'hlt2)) (L.drop a) = false → ∀ j (hj : j < 7), j < i + 1 → isT (headP (formsP[j]'hj)) (L.drop a) = false := by
    intro e j hj hji
    rcases Nat.lt_or_ge j i with h2 | h2
    ·exact HNO.out j hj h2
    ·have : j = i := by omega
     subst this; exact e
   rw [show formsP[i] = formsP[i]'hlt2 from rfl] at he
   rw [hfe] at g3 g4 g5 hkk hww he hno
   have hHD : headP (kk, Pt'.w x :: ps) = x := rfl
   rw [hHD] at he hno
   have HNO2 := hid hno
   have HK := hid hkk
   have HWW := hid hww
   obtain ⟨b8, o8, e8, _, hok8, hc8⟩ := RdSs.at1 g5 (q := 0) (by simp)
   injection e8 with e8
   injection e8 with e9 e10
   subst e9 e10
   have hc9 : wr.cell? ⟨b9, 0, none⟩ = some (.string x) := hc8
   have HPr := hid (HP.out.below HBW.out)
   obtain ⟨bt, ot, ct, d0, hlta, hbk, hokt, hdr1, k0, k1, k2⟩ := HPr.out.tok HD.out
   have hlta' : (a : Int) < (L.length : Int) := by omega
   have HIX := hid (show isT x (L.drop a) = (t.str.toList == x.toList) by rw [HD.out]; rfl)
   have hkW := HPr.out.lt
   have hbtW : bt < wr.heap.size := by omega
   have hlen2 : (Pt'.w x :: ps).length = ps.length + 1 := rfl
   rw [hlen2] at g4
   have hc8' := hc8
   clear hc8 hc8' hok8 hkk hww hno hmem hfe HE HNO k0 k1 hokt hdr1 hFr hHD
   generalize t.str = y at *
   have bx : Below wr.heap.size wr (wr.alloc (.cells #[.int .i64 kk, .slice (some ⟨b9, 0, none⟩) (ps.length + 1) (ps.length + 1)] 113)) := (Below.refl _ _).alloc (Nat.le_refl _) _
   have BXB := hid (Blk.made wr [.int .i64 kk, .slice (some ⟨b9, 0, none⟩) (ps.length + 1) (ps.length + 1)] 113 (base := 0) (Nat.zero_le _))
   have RG5 := hid (RdL.go g5 Flat.keeps bx (fun j hj => by unfold Is at hj; subst hj; exact g2) (Sub.refl _))
   have HP2 := hid (HPr.out.below bx)
   have HBW2 := hid (HBW.out.trans (bx.mono HBW.out.size))
   have hzwr := HBW.out.size
   have HDX := hid (show wr.heap.size < (wr.alloc (.cells #[.int .i64 kk, .slice (some ⟨b9, 0, none⟩) (ps.length + 1) (ps.length + 1)] 113)).heap.size by simp)
   have q0 : (wr.alloc (.cells #[.int .i64 kk, .slice (some ⟨b9, 0, none⟩) (ps.length + 1) (ps.length + 1)] 113)).cell? ⟨k, 0, none⟩ = some (.slice (some ⟨bt, ot, none⟩) L.length ct) := (World.cell?_alloc_lt wr _ ⟨k, 0, none⟩ hkW).trans d0
   have q1 : (wr.alloc (.cells #[.int .i64 kk, .slice (some ⟨b9, 0, none⟩) (ps.length + 1) (ps.length + 1)] 113)).cell? ⟨bt, ot + a * 3 + 2, none⟩ = some (.string y) := (World.cell?_alloc_lt wr _ ⟨bt, ot + a * 3 + 2, none⟩ hbtW).trans k2
   have q2 : (wr.alloc (.cells #[.int .i64 kk, .slice (some ⟨b9, 0, none⟩) (ps.length + 1) (ps.length + 1)] 113)).cell? ⟨b9, 0, none⟩ = some (.string x) := (World.cell?_alloc_lt wr _ ⟨b9, 0, none⟩ g2).trans hc9
   have hz8 : 0 < ps.length + 1 := by omega
   clear g5 bx
   go_upto_region 5 with (fail)
   obtain ⟨db, hdb⟩ : ∃ db, db = wr.heap.size := ⟨_, rfl⟩
   rw [← hdb] at BXB HDX ⊢
   have hdbk : ¬ db = k := by omega
   have hdbd : d < db := by omega
   have hdbw : wr.heap.size ≤ db := by omega
   clear hdb g3 g4 d0 k2 hc9
   generalize (wr.alloc (.cells #[.int .i64 kk, .slice (some ⟨b9, 0, none⟩) (ps.length + 1) (ps.length + 1)] 113)) = W2 at *
   have hdb2 : db < W2.heap.size := HDX.out
   have z0 := BXB.out.cell 0 _ rfl
   have z1 := BXB.out.cell 1 _ rfl
   cases hx : isT x (L.drop a)
   ·have HN3 := hid (HNO2.out hx)
    have HE3 := hid (show stmtG m (stsG m []) (formsP.drop (i + 1)) (L.drop a) = some out by rw [hx] at he; simpa using he)
    have hcm : (y.toList == x.toList) = false := by rw [← HIX.out]; exact hx
    clear he hx HNO2 HIX RG5
    go_quiet (fail)
    have HBW3 := hid (below_drewN HBW2.out nq)
    go_wp2
    go_roundw
    case rel => exact ⟨i + 1, by omega, by go_num, HE3, HBW3, HN3⟩
    case measure => simp [intOf]; omega
   ·have hcm : (y.toList == x.toList) = true := by rw [← HIX.out]; exact hx
    rw [hx, if_pos rfl] at he
    have HE3 := hid he
    clear he hx HNO2 HIX
    go_quiet (fail)
    have hb3w := below_drewN (Below.refl W2.heap.size W2) nq
    have HP3 := hid (HP2.out.below hb3w)
    have HB3 := hid (HB.out.trans (But.of_b (T := Is k) (below_drewN HBW2.out nq)))
    have BX3 := hid (BXB.out.drewN nq)
    have RG3 := hid (RdL.go RG5.out Flat.keeps hb3w (fun j hj => by unfold Is at hj; unfold Upto; omega) (Sub.refl _))
    have HR3 := hid (HR.out.below (below_drewN HBW2.out nq))
    have hz3 : W2.heap.size ≤ (W2.drewN nq).heap.size := hb3w.size
    have hzz2 : W9.heap.size ≤ W2.heap.size := HBW2.out.size
    clear hb3w HP2 BXB RG5 z0 z1 q0 q1 q2
    generalize (W2.drewN nq) = W3 at *
    have hdW3 := HR3.out.lt
    have hklo : k < W3.heap.size := HP3.out.lt
    have hdlo : d < W3.heap.size := hdW3
    have hwlo : w.heap.size ≤ W3.heap.size := by omega
    have z0 := BX3.out.cell 0 _ rfl
    have z1 := BX3.out.cell 1 _ rfl
    have he := HE3.out
    unfold kindG at he
    have HFC := hid (fun o1 (e1 : formG m (stsG m []) (Pt'.w x :: ps) noSt (L.drop a) = some o1) => kform_any m HN.out (Pt'.w x :: ps) HWW.out HK.out.2 k f L W3 a o1 e1 HP3.out ha hf (Is b9) _ (fun j hj => by unfold Is at hj; subst hj; exact ⟨by omega, by omega⟩) RG3.out)
    rcases PO.bind_some he with ⟨q, e1, e2⟩ | ⟨st, q, e1, e2⟩
    ·have HC := hid (HFC.out _ e1)
     have HO := hid e2
     clear e1 e2 he HE3 HFC RG3
     go_upto_region 7 with (go_at_call 51; refine HC.out.mono ?_; rintro e w4 ⟨V, z4, g4, rfl, ⟨⟨k', s', a', b', l', m'⟩, hst⟩, hfr, hp4, hb4⟩; obtain ⟨A1, A2, A3, A4, c1, c2, c3, c4, rfl, hik, his, xa, xb, xl, xm⟩ := hst.open_)
     have HFR := hid hfr
     have hz4 := hb4.size
     have HI4 := hid (And.intro hik (And.intro his True.intro))
     have HKS := hid (KSt.box_ (d := d) (z := [.int .i64 0, .string ⟨#[]⟩, .int .i64 0, .int .i64 0, .string ⟨#[]⟩, .slice none 0 0, .int .i64 0, .int .i64 0, .string ⟨#[]⟩, .slice none 0 0, .slice none 0 0, .slice none 0 0]) (w := w) hp4 hklo hwlo (by omega) HI4.out.1 HI4.out.2.1 (HB3.out.trans hb4) (xa.to (lo' := W3.heap.size) (y' := w4.heap.size) (Nat.le_refl _) (.inr (.inl (Nat.le_refl _)))) (xb.to (lo' := W3.heap.size) (y' := w4.heap.size) (Nat.le_refl _) (.inr (.inl (Nat.le_refl _)))) (xl.to (lo' := W3.heap.size) (y' := w4.heap.size) (Nat.le_refl _) (.inr (.inl (Nat.le_refl _)))) (xm.to (lo' := W3.heap.size) (y' := w4.heap.size) (Nat.le_refl _) (.inr (.inl (Nat.le_refl _)))) hz4 (fun _ => ⟨hdk, HR3.out.but hb4 (fun e => hdk e)⟩))
     have BX4 := hid ((BX3.out.but hb4 (fun e => hdbk e)).below ((Below.refl w4.heap.size w4).alloc (Nat.le_refl _) (.cells (stC k' s' a' b' l' m' A1 A2 A3 A4 c1 c2 c3 c4).toArray 82)))
     obtain ⟨d1, hd1⟩ : ∃ d1, d1 = w4.heap.size := ⟨_, rfl⟩
     have hd1k : ¬ d1 = k := by omega
     have hdbd1 : ¬ db = d1 := by omega
     change Code.wp _ _ _ _ (w4.alloc (.cells (stC k' s' a' b' l' m' A1 A2 A3 A4 c1 c2 c3 c4).toArray 82))
     rw [← hd1] at HKS ⊢
     clear hst xa xb xl xm hp4 hb4 hd1 hz4 hik his HI4 HC HP3 HB3 HR3 BX3
     generalize (w4.alloc (.cells (stC k' s' a' b' l' m' A1 A2 A3 A4 c1 c2 c3 c4).toArray 82)) = W4 at *
     have y0 := HKS.out.box.cell 0 _ rfl
     have f0 := HKS.out.box.fr 0
     have x0 := BX4.out.cell 0 _ rfl
     go_upto_region 8 with (fail)
     change Code.wp _ _ _ _ (setL W4 d1 0 [.int .i64 kk])
     have HK5 := hid (HKS.out.setKind (k' := kk) HK.out.1)
     have BX5 := hid (BX4.out.but (setL_is W4 d1 0 [.int .i64 kk]) (fun e => hdbd1 e))
     clear HKS BX4 y0 f0 x0
     generalize (setL W4 d1 0 [.int .i64 kk]) = W5 at *
     have x5 := BX5.out.cell 0 _ rfl
     go_upto_region 10 with (fail)
     have hres := (HK5.out.res (by simp)).2.2
     have y0 := HK5.out.box.cell 0 _ rfl; have y1 := HK5.out.box.cell 1 _ rfl; have y2 := HK5.out.box.cell 2 _ rfl; have y3 := HK5.out.box.cell 3 _ rfl; have y4 := HK5.out.box.cell 4 _ rfl; have y5 := HK5.out.box.cell 5 _ rfl; have y6 := HK5.out.box.cell 6 _ rfl; have y7 := HK5.out.box.cell 7 _ rfl; have y8 := HK5.out.box.cell 8 _ rfl; have y9 := HK5.out.box.cell 9 _ rfl; have y10 := HK5.out.box.cell 10 _ rfl; have y11 := HK5.out.box.cell 11 _ rfl
     have r0 := hres.cell 0 _ rfl; have r1 := hres.cell 1 _ rfl; have r2 := hres.cell 2 _ rfl; have r3 := hres.cell 3 _ rfl; have r4 := hres.cell 4 _ rfl; have r5 := hres.cell 5 _ rfl; have r6 := hres.cell 6 _ rfl; have r7 := hres.cell 7 _ rfl; have r8 := hres.cell 8 _ rfl; have r9 := hres.cell 9 _ rfl; have r10 := hres.cell 10 _ rfl; have r11 := hres.cell 11 _ rfl
     have f0 := hres.fr 0; have f1 := hres.fr 1; have f2 := hres.fr 2; have f3 := hres.fr 3; have f4 := hres.fr 4; have f5 := hres.fr 5; have f6 := hres.fr 6; have f7 := hres.fr 7; have f8 := hres.fr 8; have f9 := hres.fr 9; have f10 := hres.fr 10; have f11 := hres.fr 11
     clear hres
     go_wp2
     exact ret_kstbox Tryz.results31 (HK5.out.res (by simp)).2.2 rfl HK5.out hdw (.inl hdlo) hkd (.inr ⟨_, HO.out, HFR.out, rfl⟩) rfl rfl rfl rfl (by simp only [setL])
    ·have HC := hid (HFC.out _ e1)
     have HE4 := hid e2
     clear e1 e2 he HE3 HFC RG3
     obtain ⟨k', s', a', b', l', m'⟩ := st
     go_upto_region 7 with (go_at_call 51; refine HC.out.mono ?_; rintro e w4 ⟨V, b4, g4, rfl, hst, hbr4, hbl4, hgb4, hp4, hb4⟩; obtain ⟨A1, A2, A3, A4, c1, c2, c3, c4, rfl, hik, his, xa, xb, xl, xm⟩ := hst.open_)
     have HBR := hid hbr4
     have hz4 := hb4.size
     have HI4 := hid (And.intro hik (And.intro his True.intro))
     have HKS := hid (KSt.box_ (d := d) (z := [.int .i64 0, .string ⟨#[]⟩, .int .i64 0, .int .i64 0, .string ⟨#[]⟩, .slice none 0 0, .int .i64 0, .int .i64 0, .string ⟨#[]⟩, .slice none 0 0, .slice none 0 0, .slice none 0 0]) (w := w) hp4 hklo hwlo (by omega) HI4.out.1 HI4.out.2.1 (HB3.out.trans hb4) (xa.to (lo' := W3.heap.size) (y' := w4.heap.size) (Nat.le_refl _) (.inr (.inl (Nat.le_refl _)))) (xb.to (lo' := W3.heap.size) (y' := w4.heap.size) (Nat.le_refl _) (.inr (.inl (Nat.le_refl _)))) (xl.to (lo' := W3.heap.size) (y' := w4.heap.size) (Nat.le_refl _) (.inr (.inl (Nat.le_refl _)))) (xm.to (lo' := W3.heap.size) (y' := w4.heap.size) (Nat.le_refl _) (.inr (.inl (Nat.le_refl _)))) hz4 (fun _ => ⟨hdk, HR3.out.but hb4 (fun e => hdk e)⟩))
     have BX4 := hid ((BX3.out.but hb4 (fun e => hdbk e)).below ((Below.refl w4.heap.size w4).alloc (Nat.le_refl _) (.cells (stC k' s' a' b' l' m' A1 A2 A3 A4 c1 c2 c3 c4).toArray 82)))
     obtain ⟨d1, hd1⟩ : ∃ d1, d1 = w4.heap.size := ⟨_, rfl⟩
     have hd1k : ¬ d1 = k := by omega
     have hdbd1 : ¬ db = d1 := by omega
     change Code.wp _ _ _ _ (w4.alloc (.cells (stC k' s' a' b' l' m' A1 A2 A3 A4 c1 c2 c3 c4).toArray 82))
     rw [← hd1] at HKS ⊢
     clear hbr4 hst xa xb xl xm hp4 hb4 hd1 hz4 hik his HI4 HC HP3 HB3 HR3 BX3
     generalize (w4.alloc (.cells (stC k' s' a' b' l' m' A1 A2 A3 A4 c1 c2 c3 c4).toArray 82)) = W4 at *
     have y0 := HKS.out.box.cell 0 _ rfl
     have f0 := HKS.out.box.fr 0
     have x0 := BX4.out.cell 0 _ rfl
     go_upto_region 8 with (fail)
     change Code.wp _ _ _ _ (setL W4 d1 0 [.int .i64 kk])
     have HK5 := hid (HKS.out.setKind (k' := kk) HK.out.1)
     have BX5 := hid (BX4.out.but (setL_is W4 d1 0 [.int .i64 kk]) (fun e => hdbd1 e))
     clear HKS BX4 y0 f0 x0
     generalize (setL W4 d1 0 [.int .i64 kk]) = W5 at *
     have x5 := BX5.out.cell 0 _ rfl
     by_cases hk6 : kk = 6
     ·subst hk6
      have hE := HE4.out
      rw [if_pos rfl, show (St.mk k' s' a' b' l' m').setK 6 = St.mk 6 s' a' b' l' m' from rfl] at hE
      have HI := hid (kword_any HK5.out.ps b4 hbl4 hgb4 (bz [101, 108, 115, 101]))
      rw [HBR.out] at HI
      cases hel : isT (bz [101, 108, 115, 101]) q
      ·have HO := hid (show out = .ok (.mk 6 s' a' b' l' m') q by unfold elseG at hE; rw [hel] at hE; exact (Option.some.inj hE).symm)
       rw [hel] at HI
       clear hE hel HE4
       go_upto_region 10 with (go_at_call 52; refine HI.out.mono ?_; rintro e w6 ⟨rfl, hp6, hb6⟩)
       have HK6 := hid (HK5.out.step hb6 hp6)
       clear HK5 hp6 hb6 HI BX5 x5
       have HK5 := HK6
       clear HK6
       have hres := (HK5.out.res (by simp)).2.2
       have y0 := HK5.out.box.cell 0 _ rfl; have y1 := HK5.out.box.cell 1 _ rfl; have y2 := HK5.out.box.cell 2 _ rfl; have y3 := HK5.out.box.cell 3 _ rfl; have y4 := HK5.out.box.cell 4 _ rfl; have y5 := HK5.out.box.cell 5 _ rfl; have y6 := HK5.out.box.cell 6 _ rfl; have y7 := HK5.out.box.cell 7 _ rfl; have y8 := HK5.out.box.cell 8 _ rfl; have y9 := HK5.out.box.cell 9 _ rfl; have y10 := HK5.out.box.cell 10 _ rfl; have y11 := HK5.out.box.cell 11 _ rfl
       have r0 := hres.cell 0 _ rfl; have r1 := hres.cell 1 _ rfl; have r2 := hres.cell 2 _ rfl; have r3 := hres.cell 3 _ rfl; have r4 := hres.cell 4 _ rfl; have r5 := hres.cell 5 _ rfl; have r6 := hres.cell 6 _ rfl; have r7 := hres.cell 7 _ rfl; have r8 := hres.cell 8 _ rfl; have r9 := hres.cell 9 _ rfl; have r10 := hres.cell 10 _ rfl; have r11 := hres.cell 11 _ rfl
       have f0 := hres.fr 0; have f1 := hres.fr 1; have f2 := hres.fr 2; have f3 := hres.fr 3; have f4 := hres.fr 4; have f5 := hres.fr 5; have f6 := hres.fr 6; have f7 := hres.fr 7; have f8 := hres.fr 8; have f9 := hres.fr 9; have f10 := hres.fr 10; have f11 := hres.fr 11
       clear hres
       go_wp2
       exact ret_kstbox Tryz.results31 (HK5.out.res (by simp)).2.2 rfl HK5.out hdw (.inl hdlo) hkd (.inl ⟨_, b4, HO.out, HBR.out, hbl4, Nat.le_refl _, rfl, rfl⟩) rfl rfl rfl rfl (by simp only [setL])
      ·obtain ⟨t6, q3, hqe, _⟩ := isT_true hel
       have HE5 := hid (show PO.bind (blockG (stsG m []) (L.drop (b4 + 1))) (fun x r => some (.ok (St.mk 6 s' a' b' l' x) r)) = some out by
        unfold elseG at hE; rw [if_pos hel] at hE
        obtain ⟨_, _, _, _, _, _, _, h9, _⟩ := HK5.out.ps.tok (by rw [HBR.out]; exact hqe)
        rw [h9]; rw [hqe] at hE; exact hE)
       obtain ⟨_, _, _, _, hb4l, _⟩ := HK5.out.ps.tok (by rw [HBR.out]; exact hqe)
       rw [hel] at HI
       have hb41 : b4 + 1 ≤ L.length := by omega
       clear hE hel HE4 hqe
       go_upto_region 9 with (go_at_call 52; refine HI.out.mono ?_; rintro e w6 ⟨rfl, hp6, hb6⟩)
       have HK6 := hid (HK5.out.step hb6 hp6)
       clear HK5 hp6 hb6 HI BX5 x5
       rcases PO.bind_some HE5.out with ⟨q5, e1, e2⟩ | ⟨l9, q5, e1, e2⟩
       ·have HCB := hid (kblk_any m HN.out k b4 L w6 (b4 + 1) _ e1 HK6.out.ps hb41 (by omega))
        have HO := hid e2
        have hlw := HK6.out.lw
        have hdl := HK6.out.lt
        clear e1 e2 HE5
        go_upto_region 10 with (go_at_call 53; refine HCB.out.mono ?_; rintro e w7 ⟨V7, z7, g7, rfl, ⟨l7, hx7⟩, hfr7, hp7, hb7⟩; obtain ⟨A7, c7, rfl⟩ := hx7.form; have hk7 := HK6.out.step hb7 hp7; have y0 := hk7.box.cell 11 _ rfl; have f0 := hk7.box.fr 11)
        have HK5 := hid (hk7.setElse (rdS.to hx7 (lo' := W3.heap.size) (y' := d1) hlw (.inl hdl)))
        have HFR := hid hfr7
        change Code.wp _ _ _ _ (setL w7 d1 11 [.slice A7 l7.length c7])
        generalize (setL w7 d1 11 [.slice A7 l7.length c7]) = W7 at *
        clear HK6 HCB hx7 hp7 hb7 hk7 hfr7 y0 f0
        have hres := (HK5.out.res (by simp)).2.2
        have y0 := HK5.out.box.cell 0 _ rfl; have y1 := HK5.out.box.cell 1 _ rfl; have y2 := HK5.out.box.cell 2 _ rfl; have y3 := HK5.out.box.cell 3 _ rfl; have y4 := HK5.out.box.cell 4 _ rfl; have y5 := HK5.out.box.cell 5 _ rfl; have y6 := HK5.out.box.cell 6 _ rfl; have y7 := HK5.out.box.cell 7 _ rfl; have y8 := HK5.out.box.cell 8 _ rfl; have y9 := HK5.out.box.cell 9 _ rfl; have y10 := HK5.out.box.cell 10 _ rfl; have y11 := HK5.out.box.cell 11 _ rfl
        have r0 := hres.cell 0 _ rfl; have r1 := hres.cell 1 _ rfl; have r2 := hres.cell 2 _ rfl; have r3 := hres.cell 3 _ rfl; have r4 := hres.cell 4 _ rfl; have r5 := hres.cell 5 _ rfl; have r6 := hres.cell 6 _ rfl; have r7 := hres.cell 7 _ rfl; have r8 := hres.cell 8 _ rfl; have r9 := hres.cell 9 _ rfl; have r10 := hres.cell 10 _ rfl; have r11 := hres.cell 11 _ rfl
        have f0 := hres.fr 0; have f1 := hres.fr 1; have f2 := hres.fr 2; have f3 := hres.fr 3; have f4 := hres.fr 4; have f5 := hres.fr 5; have f6 := hres.fr 6; have f7 := hres.fr 7; have f8 := hres.fr 8; have f9 := hres.fr 9; have f10 := hres.fr 10; have f11 := hres.fr 11
        clear hres
        go_wp2
        exact ret_kstbox Tryz.results31 (HK5.out.res (by simp)).2.2 rfl HK5.out hdw (.inl hdlo) hkd (.inr ⟨_, HO.out, HFR.out, rfl⟩) rfl rfl rfl rfl (by simp only [setL])
       ·have HCB := hid (kblk_any m HN.out k b4 L w6 (b4 + 1) _ e1 HK6.out.ps hb41 (by omega))
        have HO := hid (Option.some.inj e2).symm
        have hlw := HK6.out.lw
        have hdl := HK6.out.lt
        clear e1 e2 HE5
        go_upto_region 10 with (go_at_call 53; refine HCB.out.mono ?_; rintro e w7 ⟨V7, b7, g7, rfl, hx7, hbr7, hbl7, hgb7, hp7, hb7⟩; obtain ⟨A7, c7, rfl⟩ := hx7.form; have hk7 := HK6.out.step hb7 hp7; have y0 := hk7.box.cell 11 _ rfl; have f0 := hk7.box.fr 11)
        have HK5 := hid (hk7.setElse (rdS.to hx7 (lo' := W3.heap.size) (y' := d1) hlw (.inl hdl)))
        have HBR7 := hid hbr7
        change Code.wp _ _ _ _ (setL w7 d1 11 [.slice A7 l9.length c7])
        generalize (setL w7 d1 11 [.slice A7 l9.length c7]) = W7 at *
        clear HK6 HCB hx7 hp7 hb7 hk7 hbr7 y0 f0
        have hres := (HK5.out.res (by simp)).2.2
        have y0 := HK5.out.box.cell 0 _ rfl; have y1 := HK5.out.box.cell 1 _ rfl; have y2 := HK5.out.box.cell 2 _ rfl; have y3 := HK5.out.box.cell 3 _ rfl; have y4 := HK5.out.box.cell 4 _ rfl; have y5 := HK5.out.box.cell 5 _ rfl; have y6 := HK5.out.box.cell 6 _ rfl; have y7 := HK5.out.box.cell 7 _ rfl; have y8 := HK5.out.box.cell 8 _ rfl; have y9 := HK5.out.box.cell 9 _ rfl; have y10 := HK5.out.box.cell 10 _ rfl; have y11 := HK5.out.box.cell 11 _ rfl
        have r0 := hres.cell 0 _ rfl; have r1 := hres.cell 1 _ rfl; have r2 := hres.cell 2 _ rfl; have r3 := hres.cell 3 _ rfl; have r4 := hres.cell 4 _ rfl; have r5 := hres.cell 5 _ rfl; have r6 := hres.cell 6 _ rfl; have r7 := hres.cell 7 _ rfl; have r8 := hres.cell 8 _ rfl; have r9 := hres.cell 9 _ rfl; have r10 := hres.cell 10 _ rfl; have r11 := hres.cell 11 _ rfl
        have f0 := hres.fr 0; have f1 := hres.fr 1; have f2 := hres.fr 2; have f3 := hres.fr 3; have f4 := hres.fr 4; have f5 := hres.fr 5; have f6 := hres.fr 6; have f7 := hres.fr 7; have f8 := hres.fr 8; have f9 := hres.fr 9; have f10 := hres.fr 10; have f11 := hres.fr 11
        clear hres
        go_wp2
        exact ret_kstbox Tryz.results31 (HK5.out.res (by simp)).2.2 rfl HK5.out hdw (.inl hdlo) hkd (.inl ⟨_, b7, HO.out, HBR7.out, hbl7, hgb7, rfl, rfl⟩) rfl rfl rfl rfl (by simp only [setL])
     ·have hkb : ((kk : Int) == 6) = false := by simpa using hk6
      have HO := hid (show out = .ok (.mk kk s' a' b' l' m') q by have h := HE4.out; rw [if_neg hk6] at h; exact (Option.some.inj h).symm)
      clear HE4 hk6
      go_upto_region 10 with (fail)
      have hres := (HK5.out.res (by simp)).2.2
      have y0 := HK5.out.box.cell 0 _ rfl; have y1 := HK5.out.box.cell 1 _ rfl; have y2 := HK5.out.box.cell 2 _ rfl; have y3 := HK5.out.box.cell 3 _ rfl; have y4 := HK5.out.box.cell 4 _ rfl; have y5 := HK5.out.box.cell 5 _ rfl; have y6 := HK5.out.box.cell 6 _ rfl; have y7 := HK5.out.box.cell 7 _ rfl; have y8 := HK5.out.box.cell 8 _ rfl; have y9 := HK5.out.box.cell 9 _ rfl; have y10 := HK5.out.box.cell 10 _ rfl; have y11 := HK5.out.box.cell 11 _ rfl
      have r0 := hres.cell 0 _ rfl; have r1 := hres.cell 1 _ rfl; have r2 := hres.cell 2 _ rfl; have r3 := hres.cell 3 _ rfl; have r4 := hres.cell 4 _ rfl; have r5 := hres.cell 5 _ rfl; have r6 := hres.cell 6 _ rfl; have r7 := hres.cell 7 _ rfl; have r8 := hres.cell 8 _ rfl; have r9 := hres.cell 9 _ rfl; have r10 := hres.cell 10 _ rfl; have r11 := hres.cell 11 _ rfl
      have f0 := hres.fr 0; have f1 := hres.fr 1; have f2 := hres.fr 2; have f3 := hres.fr 3; have f4 := hres.fr 4; have f5 := hres.fr 5; have f6 := hres.fr 6; have f7 := hres.fr 7; have f8 := hres.fr 8; have f9 := hres.fr 9; have f10 := hres.fr 10; have f11 := hres.fr 11
      clear hres
      go_wp2
      exact ret_kstbox Tryz.results31 (HK5.out.res (by simp)).2.2 rfl HK5.out hdw (.inl hdlo) hkd (.inl ⟨_, b4, HO.out, HBR.out, hbl4, hgb4, rfl, rfl⟩) rfl rfl rfl rfl (by simp only [setL])
  ·exfalso
   have hi7 : i = 7 := by omega
   subst hi7
   obtain ⟨j, hj, h2⟩ := HEX.out
   rw [HNO.out j hj hj] at h2; cases h2
end Go.Proofs.YtnpgpcnkdocknaaGreatDoor
