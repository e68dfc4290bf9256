/- Middle of the document, and the law of the middles. -/
import Derived.Test.YtecncmmkghmojaaXk
set_option linter.all false
namespace Go.Proofs.Ytecncmmkghmojaa.Sh
open Go Geo
set_option maxRecDepth 100000

end Go.Proofs.Ytecncmmkghmojaa.Sh

