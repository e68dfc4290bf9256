/- Lowest of the program and of the document; the law of the rolls. -/
import Derived.Test.YtecncmmkghmojaaXv
set_option linter.all false
namespace Go.Proofs.Ytecncmmkghmojaa.Sh
open Go Geo
set_option maxRecDepth 100000

end Go.Proofs.Ytecncmmkghmojaa.Sh

