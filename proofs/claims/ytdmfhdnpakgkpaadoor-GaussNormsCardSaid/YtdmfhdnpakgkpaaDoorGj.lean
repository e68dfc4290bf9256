/- CountSquares: the walk. -/
import Derived.Test.YtdmfhdnpakgkpaaDoorGi
set_option linter.all false
namespace Go.Proofs.YtdmfhdnpakgkpaaDoor.Sh
open Go
set_option maxRecDepth 100000

end Go.Proofs.YtdmfhdnpakgkpaaDoor.Sh

