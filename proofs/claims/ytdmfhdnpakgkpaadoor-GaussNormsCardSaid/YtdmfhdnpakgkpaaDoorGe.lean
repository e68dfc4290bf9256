/- Sums of two squares: plain laws. -/
import Derived.Test.YtdmfhdnpakgkpaaDoorGb
set_option linter.all false
namespace Go.Proofs.YtdmfhdnpakgkpaaDoor.Sh
open Go
set_option maxRecDepth 100000

/-- what each sum counts for -/
def many (p : Int × Int) : Int := if p.2 = 0 then 1 else if p.1 = 0 ∨ p.1 = p.2 then 4 else 8
end Go.Proofs.YtdmfhdnpakgkpaaDoor.Sh

