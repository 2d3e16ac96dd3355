/- What the walks of the seal's laws stand on. -/
import Derived.Test.YtobbjhbjjhnicaaNumGet
import Derived.Test.YtobbjhbjjhnicaaNumPut
import Derived.Test.YtobbjhbjjhnicaaXor
import Derived.Test.YtobbjhbjjhnicaaOf
import Derived.Test.YtobbjhbjjhnicaaSame
import Derived.Test.YtobbjhbjjhnicaaSlices
import Derived.Test.YtobbjhbjjhnicaaStronger
import Derived.Test.YtobbjhbjjhnicaaPlanC
import Derived.Test.YtobbjhbjjhnicaaPass
namespace Go.Proofs.Ytobbjhbjjhnicaa
end Go.Proofs.Ytobbjhbjjhnicaa
