/- The walk of HullOwn: at every slice of pairs and all whole numbers it answers true. -/
import Derived.Test.YtecncmmkghmojaaYr
import Derived.Test.YtecncmmkghmojaaWe
set_option linter.all false
namespace Go.Proofs.Ytecncmmkghmojaa.hullOwn
open Go Go.RowKit
theorem walk (a0 : Option Addr) (len0 cap0 : Nat) (z0 : List (Int × Int)) (a1 : Int) (W : World) (w0 : Sh.IsPrs W a0 len0 cap0 z0) (w1 : (Lit.int .i64 a1).wf = true) :
    Calls Try.prog 17 #[.slice a0 len0 cap0, .int .i64 a1] W (fun e W' => e = .returned (.bool true) ∧ Below W.heap.size W W') :=
  Sh.walk_prs Sh.mixed Sh.tab Sh.CA_ok w0 (rest := [.int .i64 a1]) rfl rfl (fun h u hu => ⟨h, [], Sh.law17 hu a1⟩)
end Go.Proofs.Ytecncmmkghmojaa.hullOwn

