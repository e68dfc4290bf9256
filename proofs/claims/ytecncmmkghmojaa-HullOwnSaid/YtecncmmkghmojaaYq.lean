/- HullWithin: the law. -/
import Derived.Test.YtecncmmkghmojaaYp
set_option linter.all false
namespace Go.Proofs.Ytecncmmkghmojaa.Sh
open Go Geo
set_option maxRecDepth 100000

theorem tame_B {X : List (Int × Int)} (T : Tame X) : ptsB X = true := by
  simp only [ptsB, Bool.and_eq_true, decide_eq_true_eq, List.all_eq_true]
  refine ⟨⟨T.lo, T.hi⟩, fun q hq => ?_⟩
  have := T.inr q hq
  simpa [ptB, inR] using this

end Go.Proofs.Ytecncmmkghmojaa.Sh

