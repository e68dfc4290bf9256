/- Numbers of the chapter: Check, Norm, and whether they are prime. -/
import Derived.Test.YtdmfhdnpakgkpaaDoorNc
set_option linter.all false
namespace Go.Proofs.YtdmfhdnpakgkpaaDoor.Sh
open Go
set_option maxRecDepth 100000

end Go.Proofs.YtdmfhdnpakgkpaaDoor.Sh

