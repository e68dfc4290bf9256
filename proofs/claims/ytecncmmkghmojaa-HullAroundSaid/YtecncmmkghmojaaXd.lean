/- The iterator over corners: its making and its run. -/
import Derived.Test.YtecncmmkghmojaaXc
set_option linter.all false
namespace Go.Proofs.Ytecncmmkghmojaa.Sh
open Go Geo
set_option maxRecDepth 100000

end Go.Proofs.Ytecncmmkghmojaa.Sh

