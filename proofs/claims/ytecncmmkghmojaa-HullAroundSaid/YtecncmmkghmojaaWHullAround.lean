/- The walk of HullAround: at every slice of pairs and all whole numbers it answers true. -/
import Derived.Test.YtecncmmkghmojaaYo
import Derived.Test.YtecncmmkghmojaaWe
set_option linter.all false
namespace Go.Proofs.Ytecncmmkghmojaa.hullAround
open Go Go.RowKit
theorem walk (a0 : Option Addr) (len0 cap0 : Nat) (z0 : List (Int × Int))  (W : World) (w0 : Sh.IsPrs W a0 len0 cap0 z0)  :
    Calls Try.prog 15 #[.slice a0 len0 cap0] W (fun e W' => e = .returned (.bool true) ∧ Below W.heap.size W W') :=
  Sh.walk_prs Sh.mixed Sh.tab Sh.CA_ok w0 (rest := []) rfl rfl (fun h u hu => ⟨h, [], Sh.law15 hu ⟩)
end Go.Proofs.Ytecncmmkghmojaa.hullAround

