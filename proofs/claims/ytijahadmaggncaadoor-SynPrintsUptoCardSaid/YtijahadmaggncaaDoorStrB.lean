/- Slices of strings: slices.Index, Contains, Equal; the reference's Merge. -/
import Derived.Test.YtijahadmaggncaaDoorBut
import Derived.Test.YtijahadmaggncaaDoorBlk
import Derived.Test.YtijahadmaggncaaDoorScSpec
import Derived.Laws.Strings
namespace Go.Proofs.YtijahadmaggncaaDoor
open Go.RowKit
set_option linter.unusedVariables false
def encS (s : Str) : List Value := [.string s]
def okS (s : Str) : Prop := s.size ≤ 140737488355328
abbrev RdSs := RdL (Flat encS okS) 1 16
abbrev OwnSs := OwnL (Flat encS okS) 1
theorem RdSs.at1 {w : World} {S : Blocks} {l : List Str} {A : Option Addr} {n cap : Nat} (h : RdSs w S l (.slice A n cap)) {q : Nat} (hq : q < l.length) :
    ∃ b off, A = some ⟨b, off, none⟩ ∧ S b ∧ okS l[q] ∧ w.cell? ⟨b, off + q, none⟩ = some (.string l[q]) :=
  RdL.one (f := fun (x : Str) => Value.string x) (ok := okS) h hq
theorem oneS {w : World} {S : Blocks} : ∀ (e : Str) (cs : List Value), Flat encS okS w S e cs → ∀ u ∈ cs, u.oneCell' = true := by
  rintro e _ ⟨rfl, _⟩ u hu
  simp only [encS, List.mem_singleton] at hu
  subst hu; rfl
theorem infoStr : (Tryd.prog.info? 9).map (fun i => (i.zero, i.size, i.bytes)) = some (some (.string ⟨#[]⟩), 1, 16) := by kernel_rfl
theorem str_ne {a b : Str} (h : ¬ a = b) : (a.toList == b.toList) = false := by
  rw [beq_eq_false_iff_ne]
  intro e
  rw [ByteArray.toList_eq, ByteArray.toList_eq] at e
  exact h (ByteArray.ext (Array.toList_inj.mp e))
theorem str_eq {a b : Str} (h : a = b) : (a.toList == b.toList) = true := by rw [h]; simp
end Go.Proofs.YtijahadmaggncaaDoor
