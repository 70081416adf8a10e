/- The walks of ETwo and of expr.two, and what goes with them. -/
import Derived.Test.YthbbecmffndgdaaTw4
import Derived.Test.YthbbecmffndgdaaExSpec
import Derived.Test.YthbbecmffndgdaaEx3
namespace Go.Proofs.Ythbbecmffndgdaa
end Go.Proofs.Ythbbecmffndgdaa
