/- A hull turned by a right angle, or begun at another corner: plain laws. -/
import Derived.Test.YtecncmmkghmojaaXx
set_option linter.all false
namespace Go.Proofs.Ytecncmmkghmojaa.Sh
open Go Geo
set_option maxRecDepth 100000

/-! ### begun at another corner -/
end Go.Proofs.Ytecncmmkghmojaa.Sh

