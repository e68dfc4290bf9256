/- The walk of GaussFermat: at every whole number it answers true. -/
import Derived.Test.YtdmfhdnpakgkpaaDoorNj
set_option linter.all false
namespace Go.Proofs.YtdmfhdnpakgkpaaDoor.gaussFermat
open Go Go.RowKit
theorem walk (a0 : Int) (W : World) (hg : Sh.GlobW Tryd.prog W) :
    Calls Tryd.prog 11 #[.int .i64 a0] W (fun e W' => e = .returned (.bool true) ∧ Below W.heap.size W W') :=
  Sh.walk_of (Sh.law11 a0 []) rfl rfl W hg
end Go.Proofs.YtdmfhdnpakgkpaaDoor.gaussFermat

