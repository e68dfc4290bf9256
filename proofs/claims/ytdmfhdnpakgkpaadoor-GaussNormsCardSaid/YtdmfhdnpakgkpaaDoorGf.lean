/- squares: the walk. -/
import Derived.Test.YtdmfhdnpakgkpaaDoorGe
set_option linter.all false
namespace Go.Proofs.YtdmfhdnpakgkpaaDoor.Sh
open Go
set_option maxRecDepth 100000

end Go.Proofs.YtdmfhdnpakgkpaaDoor.Sh

