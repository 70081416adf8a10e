/- A leaf is noted as done; pick, plainly. -/
import Derived.Test.YtbpooepbnnbipaaSy3
import Derived.Test.YtbpooepbnnbipaaAppStep
import Derived.Test.YtbpooepbnnbipaaStTxt
namespace Go.Proofs.Ytbpooepbnnbipaa
open Go.RowKit
set_option linter.unusedVariables false
section
variable {base : Nat} {w w' : World} {y : Nat} {col : Nat → Nat} {t : Tm} {k N gp cp ga ca gq cq : Nat} {ds : List Nat} {lv : Int} {od : Value} {s : Vs}
/-- one more is done: the row has grown, and lies in the yard's cell -/
theorem Yd.append (h : Yd base w y col t k N gp cp ga ca gq cq ds lv od s) {wl w5 : World} (hl : Below w.heap.size w wl) {v5 : Value} (hg : wl.grownBy w5 od.ownBlock) {x : Nat × Nat} (ho : OwnL (Flat encDn okDn) 2 34 w5 base Nowhere (s.out ++ [x]) v5) (hd : v5.ownBlock = od.ownBlock ∨ v5.ownBlock = some wl.heap.size) :
    ∃ col', Yd base (w5.setCell ⟨y, 4, none⟩ v5) y col' t k N gp cp ga ca gq cq ds lv v5 { s with out := s.out ++ [x] } ∧ (∀ b, b < w.heap.size → col' b = col b) ∧ But (Yc col) w (w5.setCell ⟨y, 4, none⟩ v5) := by
  have b1 : But (fun b => od.ownBlock = some b) w w5 := (But.of_below hl).trans (But.of_grown hg)
  have b2 : But (fun b => od.ownBlock = some b ∨ b = y) w (w5.setCell ⟨y, 4, none⟩ v5) := (b1.sub fun b h => .inl h).setCell (.inr rfl) v5
  have hyo : od.ownBlock ≠ some y := fun e => by have := h.co y e; rw [h.cy] at this; cases this
  have hylt := h.hd.lt
  have hyw : y < wl.heap.size := Nat.lt_of_lt_of_le hylt hl.size
  have hy5 : v5.ownBlock ≠ some y := fun e => by
    rcases hd with e2 | e2
    · exact hyo (e2 ▸ e)
    · rw [e2] at e; injection e with e; omega
  have hcl : ∃ col' : Nat → Nat, (∀ b, v5.ownBlock = some b → col' b = 5) ∧ ∀ b, v5.ownBlock ≠ some b → col' b = col b := by
    classical
    exact ⟨fun b => if v5.ownBlock = some b then 5 else col b, fun b h => if_pos h, fun b h => if_neg h⟩
  obtain ⟨col', hc1, hc2⟩ := hcl
  have hc : ∀ b, b < w.heap.size → col' b = col b := fun b hb => by
    by_cases e : v5.ownBlock = some b
    · rw [hc1 b e]
      rcases hd with e2 | e2
      · exact (h.co b (e2 ▸ e)).symm
      · rw [e2] at e; injection e with e
        have := hl.size; omega
    · exact hc2 b e
  have h' := h.colour hc
  have n : ∀ b c, col b = c → c ≠ 5 → c ≠ 0 → ¬ (od.ownBlock = some b ∨ b = y) := fun b c h1 h2 h3 h4 => by
    rcases h4 with h4 | h4
    · exact h2 (h1.symm.trans (h.co b h4))
    · subst h4; exact h3 (h1.symm.trans h.cy)
  refine ⟨col', ⟨?_, h.ps.but b2 (n gp 1 h.cp (by decide) (by decide)), h.at_.but b2 (n ga 2 h.ca (by decide) (by decide)), h.ptr.but b2 (n gq 3 h.cq (by decide) (by decide)), ?_, fun i hi => ?_, h'.cy, h'.cp, h'.ca, h'.cq, hc1, h.la, h.lq, h.ld⟩, hc, b2.sub fun b hb => ?_⟩
  · exact (h.hd.but b1 hyo).set (i := 4) (by simp) v5
  · exact ho.but ((But.refl (Is y) w5).setCell (p := ⟨y, 4, none⟩) rfl v5) (fun b e e2 => hy5 (by rw [show b = y from e2] at e; exact e))
  · obtain ⟨X, d, h1, h2, h3⟩ := h.qs i hi
    obtain ⟨X2, d2, h12, h22, h32⟩ := h'.qs i hi
    refine ⟨X, d, h1, h2.but b2 (fun b hb => n b (6 + i) (h3 b hb) (by omega) (by omega)), fun b hb => ?_⟩
    have hx : b < w.heap.size := by obtain ⟨A, m, top, r, _, _, _, _, h5, _⟩ := h2; exact (h5 b hb).2
    rw [hc b hx]; exact h3 b hb
  · unfold Yc
    rcases hb with hb | hb
    · rw [h.co b hb]; decide
    · subst hb; rw [h.cy]; decide
theorem oneDn {w : World} {S : Blocks} : ∀ (e : Nat × Nat) (cs : List Value), Flat encDn okDn w S e cs → ∀ u ∈ cs, u.oneCell' = true := by
  rintro e cs ⟨rfl, _⟩ u hu
  simp [encDn] at hu
  rcases hu with rfl | rfl <;> simp [Value.oneCell']
theorem lf_le {t : Tm} {p : Pt} (h : (subT t p).isSome = true) : lfP t p ≤ (nodesT t).length := by
  obtain ⟨x, hx⟩ := Option.isSome_iff_exists.1 h
  have h1 := lf_count p x hx
  have h2 := count_nodes t
  omega
theorem infoDn : (Try.prog.info? 34).map (fun i => (i.zero, i.size, i.bytes)) = some (some (.agg #[.int .i64 0, .int .i64 0]), 2, 16) := by kernel_rfl
end
end Go.Proofs.Ytbpooepbnnbipaa
