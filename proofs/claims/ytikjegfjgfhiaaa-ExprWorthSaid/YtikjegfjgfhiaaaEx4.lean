/- The walks of ETwo and of expr.two, and what goes with them. -/
import Derived.Test.YtikjegfjgfhiaaaTw4
import Derived.Test.YtikjegfjgfhiaaaExSpec
import Derived.Test.YtikjegfjgfhiaaaEx3
namespace Go.Proofs.Ytikjegfjgfhiaaa
end Go.Proofs.Ytikjegfjgfhiaaa
