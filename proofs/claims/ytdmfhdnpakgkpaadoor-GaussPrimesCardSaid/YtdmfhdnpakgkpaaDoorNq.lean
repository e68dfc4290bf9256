/- GaussMuls: numbers out of any pairs; the law. -/
import Derived.Test.YtdmfhdnpakgkpaaDoorH19
import Derived.Test.YtdmfhdnpakgkpaaDoorGd
set_option linter.all false
namespace Go.Proofs.YtdmfhdnpakgkpaaDoor.Sh
open Go
set_option maxRecDepth 100000
set_option maxHeartbeats 4000000

end Go.Proofs.YtdmfhdnpakgkpaaDoor.Sh

