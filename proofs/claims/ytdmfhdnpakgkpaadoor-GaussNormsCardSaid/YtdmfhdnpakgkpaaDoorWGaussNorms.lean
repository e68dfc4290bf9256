/- The walk of GaussNorms: at every input it answers true. -/
import Derived.Test.YtdmfhdnpakgkpaaDoorH21
set_option linter.all false
namespace Go.Proofs.YtdmfhdnpakgkpaaDoor.gaussNorms
open Go Go.RowKit
theorem walk (a0 b0 : Int) (a1 b1 : Int) (W : World) (hg : Sh.GlobW Tryd.prog W) :
    Calls Tryd.prog 6 #[.agg #[.int .i64 a0, .int .i64 b0], .agg #[.int .i64 a1, .int .i64 b1]] W (fun e W' => e = .returned (.bool true) ∧ Below W.heap.size W W') :=
  Sh.walk_of2 (Sh.law6 (a0, b0) (a1, b1) []) rfl rfl W hg
end Go.Proofs.YtdmfhdnpakgkpaaDoor.gaussNorms

