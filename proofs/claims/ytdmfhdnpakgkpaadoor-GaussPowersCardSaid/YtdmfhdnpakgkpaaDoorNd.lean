/- Numbers of the chapter: Check, Norm, and whether they are prime. -/
import Derived.Test.YtdmfhdnpakgkpaaDoorNc
set_option linter.all false
namespace Go.Proofs.YtdmfhdnpakgkpaaDoor.Sh
open Go
set_option maxRecDepth 100000

theorem tmod_nat (a b : Nat) : ((a : Int)).tmod (b : Int) = ((a % b : Nat) : Int) := by
  rw [Int.tmod_eq_emod_of_nonneg (by omega)]; rfl
end Go.Proofs.YtdmfhdnpakgkpaaDoor.Sh

