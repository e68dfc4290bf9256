/- The walk of GaussInverses: at every input it answers true. -/
import Derived.Test.YtdmfhdnpakgkpaaDoorOg
set_option linter.all false
namespace Go.Proofs.YtdmfhdnpakgkpaaDoor.gaussInverses
open Go Go.RowKit
theorem walk (a0 b0 : Int) (a1 b1 : Int) (a2 : Int) (W : World) (hg : Sh.GlobW Tryd.prog W) :
    Calls Tryd.prog 14 #[.agg #[.int .i64 a0, .int .i64 b0], .agg #[.int .i64 a1, .int .i64 b1], .int .i64 a2] W (fun e W' => e = .returned (.bool true) ∧ Below W.heap.size W W') :=
  Sh.walk_of (Sh.law14 (a0, b0) (a1, b1) a2 []) rfl rfl W hg
end Go.Proofs.YtdmfhdnpakgkpaaDoor.gaussInverses

