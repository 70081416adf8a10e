/- Rows of pairs of integers. -/
import Derived.Test.YtknaoianhjeccaaDoorFlat
namespace Go.Proofs.YtknaoianhjeccaaDoor
open Go.RowKit
set_option linter.unusedVariables false
def encP (x : Int × Int) : List Value := [.int .i64 x.1, .int .i64 x.2]
def okPr (x : Int × Int) : Prop := inI x.1 ∧ inI x.2
abbrev RdP := RdL (Flat encP okPr) 2 16
abbrev OwnP := OwnL (Flat encP okPr) 2
theorem RdP.at1 {w : World} {S : Blocks} {l : List (Int × Int)} {A : Option Addr} {n cap : Nat} (h : RdP w S l (.slice A n cap)) {q : Nat} (hq : q < l.length) :
    ∃ b off, A = some ⟨b, off, none⟩ ∧ S b ∧ okPr l[q] ∧ w.cell? ⟨b, off + q * 2, none⟩ = some (.int .i64 l[q].1) ∧ w.cell? ⟨b, off + q * 2 + 1, none⟩ = some (.int .i64 l[q].2) := by
  obtain ⟨b, off, hA, hb, hok, hc⟩ := RdL.flat h hq
  exact ⟨b, off, hA, hb, hok, hc 0 _ rfl, by rw [Nat.add_assoc]; exact hc 1 _ rfl⟩
theorem encP_len (y : Int × Int) : (encP y).length = 2 := rfl
end Go.Proofs.YtknaoianhjeccaaDoor
