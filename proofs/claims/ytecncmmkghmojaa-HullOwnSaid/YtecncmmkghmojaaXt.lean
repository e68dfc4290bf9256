/- Lean of the document, and comparing leans. -/
import Derived.Test.YtecncmmkghmojaaXs
set_option linter.all false
namespace Go.Proofs.Ytecncmmkghmojaa.Sh
open Go Geo
set_option maxRecDepth 100000

end Go.Proofs.Ytecncmmkghmojaa.Sh

