/- GaussSquares: the law, its rounds. -/
import Derived.Test.YtdmfhdnpakgkpaaDoorGl
set_option linter.all false
namespace Go.Proofs.YtdmfhdnpakgkpaaDoor.Sh
open Go
set_option maxRecDepth 100000

theorem sq17_ex {n : Nat} (hn : n ≤ 1000000) (h : SHeap) : ∃ u g, M.call 17 [.int .i64 n] h = some (.tuple #[u, .int .i64 0], h ++ g, []) ∧ PS (h ++ g) u (sqs n) := by
  obtain ⟨g, hg⟩ := resH_pre h (prs (sqs n)) (sqs n).length 34
  have hu := PS.ofRes h [] (sqs n) 34
  rw [List.append_nil, hg] at hu
  exact ⟨_, g, by rw [squares17 hn h, hg], hu⟩
end Go.Proofs.YtdmfhdnpakgkpaaDoor.Sh

