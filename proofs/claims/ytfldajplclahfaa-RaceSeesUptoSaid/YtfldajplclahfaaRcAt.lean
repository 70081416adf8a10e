/- Leaves and marks in their rows. -/
import Derived.Test.YtfldajplclahfaaRc1
import Derived.Test.YtfldajplclahfaaGSp5
namespace Go.Proofs.Ytfldajplclahfaa
open Go.RowKit
set_option linter.unusedVariables false
theorem marks_at {t : Tm} {w : World} {A : Option Addr} {n cap : Nat} (h : Fr encP okPr 2 16 w t.marks (.slice A n cap)) {q : Nat} (hq : q < t.count) :
    ∃ b off, A = some ⟨b, off, none⟩ ∧ b < w.heap.size ∧ w.cell? ⟨b, off + q * 2 + 1, none⟩ = some (.int .i64 (t.p q : Int)) := by
  have hm : t.marks[q]? = some ((q : Int), (t.p q : Int)) := by have := zipP_get 0 _ _ _ (Tm.p_get t hq); rw [Nat.zero_add] at this; exact this
  obtain ⟨b, off, h1, h2, _, h3⟩ := Fr.at1P h hm
  exact ⟨b, off, h1, h2, h3⟩
theorem accsF_at {t : Tm} {w : World} {A : Option Addr} {n cap : Nat} (h : Fr encAcc okAcc 3 24 w t.leaves (.slice A n cap)) {q : Nat} (hq : q < t.count) :
    ∃ b off, A = some ⟨b, off, none⟩ ∧ b < w.heap.size ∧ okAcc (t.lf q) ∧ w.cell? ⟨b, off + q * 3, none⟩ = some (.int .i64 (t.lf q).cell) ∧ w.cell? ⟨b, off + q * 3 + 1, none⟩ = some (.bool (t.lf q).write) ∧ w.cell? ⟨b, off + q * 3 + 2, none⟩ = some (.int .i64 (t.lf q).label) := by
  obtain ⟨T, hT, h2⟩ := h
  obtain ⟨b, off, h3, h4, h5⟩ := accs_at h2 hq
  exact ⟨b, off, h3, hT _ h4, h5⟩
end Go.Proofs.Ytfldajplclahfaa
