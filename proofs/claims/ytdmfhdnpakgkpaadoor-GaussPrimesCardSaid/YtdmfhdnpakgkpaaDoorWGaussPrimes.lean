/- The walk of GaussPrimes: at every input it answers true. -/
import Derived.Test.YtdmfhdnpakgkpaaDoorH17
set_option linter.all false
namespace Go.Proofs.YtdmfhdnpakgkpaaDoor.gaussPrimes
open Go Go.RowKit
theorem walk (a0 : Int) (W : World) (hg : Sh.GlobW Tryd.prog W) :
    Calls Tryd.prog 13 #[.int .i64 a0] W (fun e W' => e = .returned (.bool true) ∧ Below W.heap.size W W') :=
  Sh.walk_of (Sh.law13 a0 []) rfl rfl W hg
end Go.Proofs.YtdmfhdnpakgkpaaDoor.gaussPrimes

