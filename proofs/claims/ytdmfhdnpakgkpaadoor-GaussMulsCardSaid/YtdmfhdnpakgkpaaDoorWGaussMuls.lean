/- The walk of GaussMuls: at every input it answers true. -/
import Derived.Test.YtdmfhdnpakgkpaaDoorNr
set_option linter.all false
namespace Go.Proofs.YtdmfhdnpakgkpaaDoor.gaussMuls
open Go Go.RowKit
theorem walk (a0 b0 : Int) (a1 b1 : Int) (a2 : Int) (W : World) (hg : Sh.GlobW Tryd.prog W) :
    Calls Tryd.prog 9 #[.agg #[.int .i64 a0, .int .i64 b0], .agg #[.int .i64 a1, .int .i64 b1], .int .i64 a2] W (fun e W' => e = .returned (.bool true) ∧ Below W.heap.size W W') :=
  Sh.walk_of (Sh.law9 (a0, b0) (a1, b1) a2 []) rfl rfl W hg
end Go.Proofs.YtdmfhdnpakgkpaaDoor.gaussMuls

