/- The shadow machine: what it answers on the empty heap is a contract. -/
import Derived.Test.YtecncmmkghmojaaShZg
set_option linter.all false
namespace Go.Proofs.Ytecncmmkghmojaa.Sh
open Go Go.RowKit

def pureC (R0 : Rec) (f : FuncId) (args : List Value) : Option Value :=
  match R0.call f args [] with
  | some (v, [], []) => if args.all (flat 3) && flat 3 v then some v else none
  | _ => none

theorem pureC_ok {P : Program} {R0 : Rec} {k : Nat} (S : Sound P R0 k) : ContractOK P (pureC R0) := by
  intro f args v h
  unfold pureC at h
  split at h
  · rename_i u hu
    split at h
    · rename_i hc
      cases h
      simp only [Bool.and_eq_true] at hc
      obtain ⟨k1, k2⟩ := always_of S hu hc.1 hc.2
      exact ⟨hc.1, hc.2, k1, k2⟩
    · cases h
  · cases h

end Go.Proofs.Ytecncmmkghmojaa.Sh
