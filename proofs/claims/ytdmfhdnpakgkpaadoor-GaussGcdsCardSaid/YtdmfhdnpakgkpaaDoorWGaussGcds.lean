/- The walk of GaussGcds: at every input it answers true. -/
import Derived.Test.YtdmfhdnpakgkpaaDoorOf
set_option linter.all false
namespace Go.Proofs.YtdmfhdnpakgkpaaDoor.gaussGcds
open Go Go.RowKit
theorem walk (a0 b0 : Int) (a1 b1 : Int) (a2 b2 : Int) (W : World) (hg : Sh.GlobW Tryd.prog W) :
    Calls Tryd.prog 12 #[.agg #[.int .i64 a0, .int .i64 b0], .agg #[.int .i64 a1, .int .i64 b1], .agg #[.int .i64 a2, .int .i64 b2]] W (fun e W' => e = .returned (.bool true) ∧ Below W.heap.size W W') :=
  Sh.walk_of (Sh.law12 (a0, b0) (a1, b1) (a2, b2) []) rfl rfl W hg
end Go.Proofs.YtdmfhdnpakgkpaaDoor.gaussGcds

