/- Accesses, and rows of them. -/
import Derived.Test.YtbpooepbnnbipaaFlat
namespace Go.Proofs.Ytbpooepbnnbipaa
open Go.RowKit
set_option linter.unusedVariables false
structure Acc where
  cell : Int
  write : Bool
  label : Int
deriving Inhabited, DecidableEq
def encAcc (a : Acc) : List Value := [.int .i64 a.cell, .bool a.write, .int .i64 a.label]
def okAcc (a : Acc) : Prop := inI a.cell ∧ inI a.label
abbrev RdAccs := RdL (Flat encAcc okAcc) 3 24
abbrev OwnAccs := OwnL (Flat encAcc okAcc) 3
abbrev accV (c : Int) (wr : Bool) (lb : Int) : Value := .agg #[.int .i64 c, .bool wr, .int .i64 lb]
theorem infoAcc : (Try.prog.info? 23).map (fun i => (i.zero, i.size, i.bytes)) = some (some (.agg #[.int .i64 0, .bool false, .int .i64 0]), 3, 24) := by kernel_rfl
theorem oneAcc {w : World} {S : Blocks} : ∀ (e : Acc) (cs : List Value), Flat encAcc okAcc w S e cs → ∀ u ∈ cs, u.oneCell' = true := by
  rintro e _ ⟨rfl, _⟩ u hu
  simp only [encAcc, List.mem_cons, List.not_mem_nil, or_false] at hu
  rcases hu with rfl | rfl | rfl <;> rfl
end Go.Proofs.Ytbpooepbnnbipaa
