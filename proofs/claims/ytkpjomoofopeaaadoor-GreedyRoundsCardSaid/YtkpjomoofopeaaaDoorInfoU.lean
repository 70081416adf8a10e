/- What the program's table says of uint64. -/
import Derived.Test.YtkpjomoofopeaaaDoorBase
namespace Go.Proofs.YtkpjomoofopeaaaDoor
open Go.RowKit
theorem infoU : (Tryd.prog.info? 42).map (fun i => (i.zero, i.size, i.bytes)) = some (some (.int .u64 0), 1, 8) := by kernel_rfl
end Go.Proofs.YtkpjomoofopeaaaDoor
