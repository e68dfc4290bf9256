/- squares: the walk, its outer loop. -/
import Derived.Test.YtdmfhdnpakgkpaaDoorGf
set_option linter.all false
namespace Go.Proofs.YtdmfhdnpakgkpaaDoor.Sh
open Go
set_option maxRecDepth 100000

end Go.Proofs.YtdmfhdnpakgkpaaDoor.Sh

