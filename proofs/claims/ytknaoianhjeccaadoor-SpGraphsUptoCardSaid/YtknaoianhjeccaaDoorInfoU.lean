/- What the program's table says of uint64. -/
import Derived.Test.YtknaoianhjeccaaDoorBase
namespace Go.Proofs.YtknaoianhjeccaaDoor
open Go.RowKit
theorem infoU : (Tryd.prog.info? 37).map (fun i => (i.zero, i.size, i.bytes)) = some (some (.int .u64 0), 1, 8) := by kernel_rfl
end Go.Proofs.YtknaoianhjeccaaDoor
