/- Numbers of the chapter: what the functions say of pairs that are none. -/
import Derived.Test.YtdmfhdnpakgkpaaDoorNe
set_option linter.all false
namespace Go.Proofs.YtdmfhdnpakgkpaaDoor.Sh
open Go
set_option maxRecDepth 100000

abbrev agV (p : Int × Int) : Value := .agg #[.int .i64 p.1, .int .i64 p.2]
abbrev bx (p : Int × Int) : SO := .cells [.int .i64 p.1, .int .i64 p.2] 34 true 0 []
abbrev bs (x y : Int × Int) : SO := .cells [.int .i64 x.1, .int .i64 x.2, .int .i64 y.1, .int .i64 y.2] 68 true 0 []
end Go.Proofs.YtdmfhdnpakgkpaaDoor.Sh

