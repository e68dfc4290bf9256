/- Numbers of the chapter: the program's norm, product, difference, quotient and rest. -/
import Derived.Test.YtdmfhdnpakgkpaaDoorNa
set_option linter.all false
namespace Go.Proofs.YtdmfhdnpakgkpaaDoor.Sh
open Go
set_option maxRecDepth 100000

/-- products that stay in the machine's range -/
structure MW (p q : Int × Int) : Prop where
  a : IntKind.i64.wrap (p.1 * q.1) = p.1 * q.1
  b : IntKind.i64.wrap (p.2 * q.2) = p.2 * q.2
  c : IntKind.i64.wrap (p.1 * q.2) = p.1 * q.2
  d : IntKind.i64.wrap (p.2 * q.1) = p.2 * q.1
  m : IntKind.i64.wrap (p.1 * q.1 - p.2 * q.2) = (mulP p q).1
  s : IntKind.i64.wrap (p.1 * q.2 + p.2 * q.1) = (mulP p q).2
end Go.Proofs.YtdmfhdnpakgkpaaDoor.Sh

