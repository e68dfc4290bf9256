/- Numbers of the chapter: the units in turn, and the first of the associates. -/
import Derived.Test.YtdmfhdnpakgkpaaDoorNl
set_option linter.all false
namespace Go.Proofs.YtdmfhdnpakgkpaaDoor.Sh
open Go
set_option maxRecDepth 100000

end Go.Proofs.YtdmfhdnpakgkpaaDoor.Sh

