/- The law of four turns. -/
import Derived.Test.YtecncmmkghmojaaXz
set_option linter.all false
namespace Go.Proofs.Ytecncmmkghmojaa.Sh
open Go Geo
set_option maxRecDepth 100000

theorem PS.shape {h : SHeap} {v : Value} {l : List (Int × Int)} (k : PS h v l) : ∃ a c, v = .slice a l.length c := by
  obtain ⟨a, c, rfl, _⟩ := k; exact ⟨_, _, rfl⟩

theorem PS.keep {h h' : SHeap} {v : Value} {l : List (Int × Int)} (hv : PS h v l) (k : ∀ j, j < h.length → h'[j]? = h[j]?) : PS h' v l := by
  obtain ⟨a, c, rfl, hk⟩ := hv
  exact ⟨a, c, rfl, fun hn => let ⟨b, o, e, p⟩ := hk hn; ⟨b, o, e, p.same (k b p.lt)⟩⟩
theorem IS.keep {h h' : SHeap} {v : Value} {l : List Int} (hv : IS h v l) (k : ∀ j, j < h.length → h'[j]? = h[j]?) : IS h' v l := by
  obtain ⟨a, c, rfl, hk⟩ := hv
  refine ⟨a, c, rfl, fun hn => ?_⟩
  obtain ⟨b, e, p⟩ := hk hn
  have hl := p.lt
  obtain ⟨el, pf, own, old, h1, h2⟩ := p
  exact ⟨b, e, el, pf, own, old, by rw [k b hl]; exact h1, h2⟩
end Go.Proofs.Ytecncmmkghmojaa.Sh

