/- The law of Domokos, Papadopulos and Ruina. -/
import Derived.Test.YtecncmmkghmojaaH8
set_option linter.all false
namespace Go.Proofs.Ytecncmmkghmojaa.Sh
open Go Geo
set_option maxRecDepth 100000

end Go.Proofs.Ytecncmmkghmojaa.Sh

