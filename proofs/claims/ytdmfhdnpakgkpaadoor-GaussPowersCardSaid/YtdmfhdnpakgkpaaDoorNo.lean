/- Numbers: First, Divides and the greatest common divisor, the program's and the document's. -/
import Derived.Test.YtdmfhdnpakgkpaaDoorNn
set_option linter.all false
namespace Go.Proofs.YtdmfhdnpakgkpaaDoor.Sh
open Go
set_option maxRecDepth 100000

end Go.Proofs.YtdmfhdnpakgkpaaDoor.Sh

