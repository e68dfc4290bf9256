/- Around of the document: what it returns. -/
import Derived.Test.YtecncmmkghmojaaH6
set_option linter.all false
namespace Go.Proofs.Ytecncmmkghmojaa.Sh
open Go Geo
set_option maxRecDepth 100000

theorem eqP (p q : Int × Int) : eqS (.agg [.int, .int]) (.agg #[.int .i64 p.1, .int .i64 p.2]) (.agg #[.int .i64 q.1, .int .i64 q.2]) = some (decide (p = q)) := by
  rw [eqS_aggr]
  show eqList [.int, .int] [.int .i64 p.1, .int .i64 p.2] [.int .i64 q.1, .int .i64 q.2] = _
  rw [eqL_cons, eqL_cons, eqL_nil]
  by_cases h1 : p.1 = q.1
  · by_cases h2 : p.2 = q.2
    · rw [if_pos h1, if_pos h2, decide_eq_true (Prod.ext h1 h2)]
    · rw [if_pos h1, if_neg h2, decide_eq_false (fun e => h2 (by rw [e]))]
  · rw [if_neg h1, decide_eq_false (fun e => h1 (by rw [e]))]

attribute [go_sem ↓ high] eqP

end Go.Proofs.Ytecncmmkghmojaa.Sh

