/- Rows of statements: words. -/
import Derived.Test.YtnpgpcnkdocknaaGreatDoorGBlk
import Derived.Test.YtnpgpcnkdocknaaGreatDoorGPqSpec
namespace Go.Proofs.YtnpgpcnkdocknaaGreatDoor
open Go.RowKit
set_option linter.unusedVariables false
theorem oneSt {w : World} {S : Blocks} : ∀ (e : St) (cs : List Value), RdSt w S e cs → ∀ u ∈ cs, u.oneCell' = true := by
 rintro e cs h u hu
 obtain ⟨k, s, a, b, body, els⟩ := e
 obtain ⟨k1, n1, s1, A1, m1, p1, k2, n2, s2, A2, m2, p2, A3, p3, A4, p4, rfl, hk, hs, ra, rb, rv, rv'⟩ := h.cells
 simp only [List.mem_cons, List.not_mem_nil, or_false] at hu
 rcases hu with rfl | rfl | rfl | rfl | rfl | rfl | rfl | rfl | rfl | rfl | rfl | rfl <;> rfl
theorem infoSt : (Tryz.prog.info? 82).map (fun i => (i.zero, i.size, i.bytes)) = some (some (.agg #[.int .i64 0, .string ⟨#[]⟩, .int .i64 0, .int .i64 0, .string ⟨#[]⟩, .slice none 0 0, .int .i64 0, .int .i64 0, .string ⟨#[]⟩, .slice none 0 0, .slice none 0 0, .slice none 0 0]), 12, 184) := by kernel_rfl
theorem rdG_one {α : Type} {rd : World → Blocks → α → List Value → Prop} {size bytes : Nat} {w : World} {S : Blocks} {g : Nat} {x : α} {cs : List Value} (hlen : cs.length = size) (h : ∀ (j : Nat) v, cs[j]? = some v → w.cell? ⟨g, j, none⟩ = some v) (hx : rd w S x cs) (hg : S g) (hb : bytes ≤ 140737488355328) : RdL rd size bytes w S [x] (.slice (some ⟨g, 0, none⟩) 1 1) := by
 refine ⟨_, 1, [cs], rfl, Nat.le_refl _, by simp [maxLen], by simpa using hb, rfl, ⟨fun c hc => by rw [List.mem_singleton.1 hc]; exact hlen, fun _ => ⟨g, 0, rfl, hg, fun i c hc j v hv => ?_⟩⟩, fun i e c he hc => ?_⟩
 ·cases i with
  | zero =>
   simp only [List.getElem?_cons_zero, Option.some.injEq] at hc
   subst hc
   rw [Nat.zero_mul, Nat.zero_add, Nat.zero_add]
   exact h j v hv
  | succ i => simp at hc
 ·cases i with
  | zero =>
   simp only [List.getElem?_cons_zero, Option.some.injEq] at he hc
   subst he; subst hc
   exact hx
  | succ i => simp at hc
end Go.Proofs.YtnpgpcnkdocknaaGreatDoor
