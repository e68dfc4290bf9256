/- pairs of the law's chapter, and the counts. -/
import Derived.Test.YtdmfhdnpakgkpaaDoorGh
set_option linter.all false
namespace Go.Proofs.YtdmfhdnpakgkpaaDoor.Sh
open Go
set_option maxRecDepth 100000

def cel (p : Int × Int) : SO := .cells [.int .i64 p.1, .int .i64 p.2] 53 true 0 []
theorem eqP (p q : Int × Int) : eqS (.agg [.int, .int]) (.agg #[.int .i64 p.1, .int .i64 p.2]) (.agg #[.int .i64 q.1, .int .i64 q.2]) = some (decide (p = q)) := by
  rw [eqS_aggr]
  show eqList [.int, .int] [.int .i64 p.1, .int .i64 p.2] [.int .i64 q.1, .int .i64 q.2] = _
  rw [eqL_cons, eqL_cons, eqL_nil]
  by_cases h1 : p.1 = q.1
  · by_cases h2 : p.2 = q.2
    · rw [if_pos h1, if_pos h2, decide_eq_true (Prod.ext h1 h2)]
    · rw [if_pos h1, if_neg h2, decide_eq_false (fun e => h2 (by rw [e]))]
  · rw [if_neg h1, decide_eq_false (fun e => h1 (by rw [e]))]

attribute [go_sem ↓ high] eqP

theorem PS.mk0 {h : SHeap} {b n c : Nat} {l : List (Int × Int)} {el : TypeId} (hb : h[b]? = some (.cells (prs l) el true 0 [])) (hn : n = l.length) : PS h (.slice (some ⟨b, 0, none⟩) n c) l :=
  ⟨_, _, by rw [hn], fun _ => ⟨_, _, rfl, Prs.mk0 hb rfl⟩⟩
end Go.Proofs.YtdmfhdnpakgkpaaDoor.Sh

