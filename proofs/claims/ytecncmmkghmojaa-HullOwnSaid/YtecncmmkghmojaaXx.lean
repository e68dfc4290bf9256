/- The law of the falls. -/
import Derived.Test.YtecncmmkghmojaaXw
set_option linter.all false
namespace Go.Proofs.Ytecncmmkghmojaa.Sh
open Go Geo
set_option maxRecDepth 100000

end Go.Proofs.Ytecncmmkghmojaa.Sh

