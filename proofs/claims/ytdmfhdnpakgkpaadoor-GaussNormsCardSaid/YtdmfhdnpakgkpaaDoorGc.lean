/- Roots of -1: the program's, the document's, and the law. -/
import Derived.Test.YtdmfhdnpakgkpaaDoorGb
set_option linter.all false
namespace Go.Proofs.YtdmfhdnpakgkpaaDoor.Sh
open Go
set_option maxRecDepth 100000

end Go.Proofs.YtdmfhdnpakgkpaaDoor.Sh

