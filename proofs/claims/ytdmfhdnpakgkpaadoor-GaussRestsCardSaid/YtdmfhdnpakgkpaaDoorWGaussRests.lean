/- The walk of GaussRests: at every input it answers true. -/
import Derived.Test.YtdmfhdnpakgkpaaDoorQf
set_option linter.all false
namespace Go.Proofs.YtdmfhdnpakgkpaaDoor.gaussRests
open Go Go.RowKit
theorem walk (a0 b0 : Int) (W : World) (hg : Sh.GlobW Tryd.prog W) :
    Calls Tryd.prog 5 #[.agg #[.int .i64 a0, .int .i64 b0]] W (fun e W' => e = .returned (.bool true) ∧ Below W.heap.size W W') :=
  Sh.walk_of2 (Sh.law5 (a0, b0) []) rfl rfl W hg
end Go.Proofs.YtdmfhdnpakgkpaaDoor.gaussRests

