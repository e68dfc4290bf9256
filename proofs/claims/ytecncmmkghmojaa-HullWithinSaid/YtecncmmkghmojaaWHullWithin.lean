/- The walk of HullWithin: at every slice of pairs and all whole numbers it answers true. -/
import Derived.Test.YtecncmmkghmojaaYq
import Derived.Test.YtecncmmkghmojaaWe
set_option linter.all false
namespace Go.Proofs.Ytecncmmkghmojaa.hullWithin
open Go Go.RowKit
theorem walk (a0 : Option Addr) (len0 cap0 : Nat) (z0 : List (Int × Int))  (W : World) (w0 : Sh.IsPrs W a0 len0 cap0 z0)  :
    Calls Try.prog 16 #[.slice a0 len0 cap0] W (fun e W' => e = .returned (.bool true) ∧ Below W.heap.size W W') :=
  Sh.walk_prs Sh.mixed Sh.tab Sh.CA_ok w0 (rest := []) rfl rfl (fun h u hu => ⟨h, [], Sh.law16 hu ⟩)
end Go.Proofs.Ytecncmmkghmojaa.hullWithin

