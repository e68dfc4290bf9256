/- squares: the walk. -/
import Derived.Test.YtdmfhdnpakgkpaaDoorGe
set_option linter.all false
namespace Go.Proofs.YtdmfhdnpakgkpaaDoor.Sh
open Go
set_option maxRecDepth 100000

theorem mul_w {a b : Nat} (ha : a ≤ 1000001) (hb : b ≤ 1000001) : IntKind.i64.wrap ((a : Int) * b) = ((a * b : Nat) : Int) := by
  have h1 : a * b ≤ 1000001 * 1000001 := Nat.mul_le_mul ha hb
  rw [← Int.natCast_mul, wrap64 (by omega) (by omega)]
end Go.Proofs.YtdmfhdnpakgkpaaDoor.Sh

