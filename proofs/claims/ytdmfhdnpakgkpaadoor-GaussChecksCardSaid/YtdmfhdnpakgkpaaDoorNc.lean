/- Numbers of the chapter: the program's quotient and rest, and what they are bounded by. -/
import Derived.Test.YtdmfhdnpakgkpaaDoorNb
set_option linter.all false
namespace Go.Proofs.YtdmfhdnpakgkpaaDoor.Sh
open Go
set_option maxRecDepth 100000

end Go.Proofs.YtdmfhdnpakgkpaaDoor.Sh

