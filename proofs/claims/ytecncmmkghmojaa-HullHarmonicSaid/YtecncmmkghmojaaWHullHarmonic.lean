/- The walk of HullHarmonic: at every whole number it answers true. -/
import Derived.Test.YtecncmmkghmojaaWd
import Derived.Test.YtecncmmkghmojaaWe
set_option linter.all false
namespace Go.Proofs.Ytecncmmkghmojaa.hullHarmonic
open Go Go.RowKit
theorem walk (a0 : Int) (W : World) (w0 : (Lit.int .i64 a0).wf = true) : Calls Try.prog 4 #[.int .i64 a0] W (fun e W' => e = .returned (.bool true) ∧ Below W.heap.size W W') :=
  Sh.walk_of (Sh.law4 a0 []) rfl rfl W
end Go.Proofs.Ytecncmmkghmojaa.hullHarmonic
