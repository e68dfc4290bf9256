/- The law of Domokos, Papadopulos and Ruina. -/
import Derived.Test.YtecncmmkghmojaaH8
set_option linter.all false
namespace Go.Proofs.Ytecncmmkghmojaa.Sh
open Go Geo
set_option maxRecDepth 100000

theorem firm_rest (l : List (Int × Int)) (k : Nat) (h : tFirm l k = true) : tRest l k = true := by
  unfold tFirm firmB at h
  unfold tRest restB
  rw [Bool.and_eq_true, decide_eq_true_eq, decide_eq_true_eq] at h ⊢
  omega

end Go.Proofs.Ytecncmmkghmojaa.Sh

