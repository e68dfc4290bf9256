/- GaussRoots: the law. -/
import Derived.Test.YtdmfhdnpakgkpaaDoorGc
set_option linter.all false
namespace Go.Proofs.YtdmfhdnpakgkpaaDoor.Sh
open Go
set_option maxRecDepth 100000

theorem u64_mod' (z n : Int) (h0 : 0 < n) : 0 ≤ (IntKind.u64.wrap z).tmod n ∧ (IntKind.u64.wrap z).tmod n < n := by
  have hu : 0 ≤ IntKind.u64.wrap z := by
    simp only [IntKind.wrap, IntKind.signed, Bool.false_eq_true, if_false]
    exact Int.emod_nonneg _ (by decide)
  rw [Int.tmod_eq_emod_of_nonneg hu]
  exact ⟨Int.emod_nonneg _ (by omega), Int.emod_lt_of_pos _ h0⟩

end Go.Proofs.YtdmfhdnpakgkpaaDoor.Sh

