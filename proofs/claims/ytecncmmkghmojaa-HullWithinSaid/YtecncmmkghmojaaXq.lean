/- Tips of the document; comparing numbers; the law of the rests. -/
import Derived.Test.YtecncmmkghmojaaXp
import Derived.Test.YtecncmmkghmojaaH5
set_option linter.all false
namespace Go.Proofs.Ytecncmmkghmojaa.Sh
open Go Geo
set_option maxRecDepth 100000

/-- Rests, Firm and Tips -/
theorem natV_sc (L : List Nat) : (natV L).all sc = true := by
  unfold natV
  exact mkI_sc _
/-- a result of numbers, in any longer heap -/
theorem IS.ofRes (h g : SHeap) (L : List Nat) (el : TypeId) : IS (resH h (natV L) L.length el ++ g) (resV h L.length 1) (L.map fun (i : Nat) => (i : Int)) := by
  by_cases hn : L.length = 0
  · have : L = [] := by cases L <;> simp_all
    subst this
    exact ⟨none, 0, rfl, fun h => (h rfl).elim⟩
  · simp only [resH, resV, hn, if_false]
    refine ⟨_, _, by rw [List.length_map], fun _ => ⟨_, rfl, el, true, 0, [], ?_, rfl⟩⟩
    rw [List.append_assoc, app_get0]; rfl
theorem IS.app {h : SHeap} {v : Value} {l : List Int} (k : IS h v l) (g : SHeap) : IS (h ++ g) v l := by
  obtain ⟨a, c, rfl, k⟩ := k
  exact ⟨a, c, rfl, fun hn => let ⟨b, e, p⟩ := k hn; ⟨b, e, p.app g⟩⟩
theorem IS.shape {h : SHeap} {v : Value} {l : List Int} (k : IS h v l) : ∃ a c, v = .slice a l.length c := by
  obtain ⟨a, c, rfl, _⟩ := k; exact ⟨_, _, rfl⟩

/-- the three tests -/
def tRest (l : List (Int × Int)) (i : Nat) : Bool := restB (mX l) (mY l) (mD l) (cn l i) (cn l ((i + 1) % l.length))
def those (l : List (Int × Int)) (test : Nat → Bool) : List Nat := (List.range l.length).filter test
end Go.Proofs.Ytecncmmkghmojaa.Sh

