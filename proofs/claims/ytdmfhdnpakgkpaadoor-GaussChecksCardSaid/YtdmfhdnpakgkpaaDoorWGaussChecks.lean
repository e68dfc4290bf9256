/- The walk of GaussChecks: at every input it answers true. -/
import Derived.Test.YtdmfhdnpakgkpaaDoorNk
set_option linter.all false
namespace Go.Proofs.YtdmfhdnpakgkpaaDoor.gaussChecks
open Go Go.RowKit
theorem walk (a0 b0 : Int) (a1 b1 : Int) (W : World) (hg : Sh.GlobW Tryd.prog W) :
    Calls Tryd.prog 16 #[.agg #[.int .i64 a0, .int .i64 b0], .agg #[.int .i64 a1, .int .i64 b1]] W (fun e W' => e = .returned (.bool true) ∧ Below W.heap.size W W') :=
  Sh.walk_of (Sh.law16 (a0, b0) (a1, b1) []) rfl rfl W hg
end Go.Proofs.YtdmfhdnpakgkpaaDoor.gaussChecks

