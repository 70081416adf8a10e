/- A row of noughts that was made; what ints are. -/
import Derived.Test.YtbpooepbnnbipaaBut
namespace Go.Proofs.Ytbpooepbnnbipaa
open Go.RowKit
set_option linter.unusedVariables false
theorem infoI : (Try.prog.info? 3).map (fun i => (i.zero, i.size, i.bytes)) = some (some (.int .i64 0), 1, 8) := by kernel_rfl

/-- a row just made -/
theorem made_row (w : World) (n : Nat) (E : TypeId) {q : Nat} {u : Nat} (h : (List.replicate n 0)[q]? = some u) : (w.alloc (.cells (Array.replicate n (.int .i64 0)) E)).cell? ⟨w.heap.size, q, none⟩ = some (.int .i64 (u : Int)) := by
  rw [List.getElem?_replicate] at h
  split at h
  · rename_i hq
    injection h with h; subst h
    have h := heap_alloc_new w (.cells (Array.replicate n (.int .i64 0)) E)
    unfold World.cell?
    simp only [h]
    simp [hq]
  · cases h
theorem frozen_alloc_cells (w : World) (c : Array Value) (E : TypeId) (o : Nat) : (w.alloc (.cells c E)).frozen? ⟨w.heap.size, o, none⟩ = false := by
  have h := heap_alloc_new w (.cells c E)
  unfold World.frozen?
  simp only [h]
  simp
end Go.Proofs.Ytbpooepbnnbipaa
