/- squares: the walk. -/
import Derived.Test.YtdmfhdnpakgkpaaDoorGe
set_option linter.all false
namespace Go.Proofs.YtdmfhdnpakgkpaaDoor.Sh
open Go
set_option maxRecDepth 100000

theorem mul_w {a b : Nat} (ha : a ≤ 1000001) (hb : b ≤ 1000001) : IntKind.i64.wrap ((a : Int) * b) = ((a * b : Nat) : Int) := by
  have h1 : a * b ≤ 1000001 * 1000001 := Nat.mul_le_mul ha hb
  rw [← Int.natCast_mul, wrap64 (by omega) (by omega)]
theorem add_w {x y : Nat} (hx : x ≤ 1000000000000000) (hy : y ≤ 1000000000000000) : IntKind.i64.wrap ((x : Int) + y) = ((x + y : Nat) : Int) := by
  rw [wrap64 (by omega) (by omega)]; rfl
theorem sq_le {b : Nat} (hb : b ≤ 1000001) : b * b ≤ 1000000000000000 := Nat.le_trans (Nat.mul_le_mul hb hb) (by decide)

end Go.Proofs.YtdmfhdnpakgkpaaDoor.Sh

