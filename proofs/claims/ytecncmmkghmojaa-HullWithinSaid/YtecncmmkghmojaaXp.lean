/- Rests and tips of the document; comparing numbers; the law of the rests. -/
import Derived.Test.YtecncmmkghmojaaXo
set_option linter.all false
namespace Go.Proofs.Ytecncmmkghmojaa.Sh
open Go Geo
set_option maxRecDepth 100000

theorem AccS.ps {H0 h : SHeap} {v : Value} {cs : List Value} {n s : Nat} {el : TypeId} (A : AccS H0 h v cs n s el) {w : Value} {l : List (Int × Int)} (hw : PS H0 w l) : PS h w l := by
  obtain ⟨a, c, rfl, k⟩ := hw
  exact ⟨a, c, rfl, fun hn => let ⟨b, o, e, p⟩ := k hn; ⟨b, o, e, A.prs p⟩⟩

end Go.Proofs.Ytecncmmkghmojaa.Sh

