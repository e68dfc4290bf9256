/- Turned of the program and of the document; comparing pairs. -/
import Derived.Test.YtecncmmkghmojaaXl
import Derived.Test.YtecncmmkghmojaaShZp
set_option linter.all false
namespace Go.Proofs.Ytecncmmkghmojaa.Sh
open Go Geo
set_option maxRecDepth 100000

theorem PS.mk0 {h : SHeap} {b n c : Nat} {l : List (Int × Int)} {el : TypeId} (hb : h[b]? = some (.cells (prs l) el true 0 [])) (hn : n = l.length) : PS h (.slice (some ⟨b, 0, none⟩) n c) l :=
  ⟨_, _, by rw [hn], fun _ => ⟨_, _, rfl, Prs.mk0 hb rfl⟩⟩

end Go.Proofs.Ytecncmmkghmojaa.Sh

