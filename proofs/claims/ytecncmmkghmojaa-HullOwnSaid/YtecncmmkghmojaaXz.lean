/- Hull of the document: it says yes to the hulls of the statements. -/
import Derived.Test.YtecncmmkghmojaaXy
set_option linter.all false
namespace Go.Proofs.Ytecncmmkghmojaa.Sh
open Go Geo
set_option maxRecDepth 100000

end Go.Proofs.Ytecncmmkghmojaa.Sh

