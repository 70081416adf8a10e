/- What the program's table says of uint64. -/
import Derived.Test.YthcafocpifjopaaDoorBase
namespace Go.Proofs.YthcafocpifjopaaDoor
open Go.RowKit
theorem infoU : (Tryd.prog.info? 25).map (fun i => (i.zero, i.size, i.bytes)) = some (some (.int .u64 0), 1, 8) := by kernel_rfl
end Go.Proofs.YthcafocpifjopaaDoor
