/- CountSquares, the program's and the document's. -/
import Derived.Test.YtdmfhdnpakgkpaaDoorGj
set_option linter.all false
namespace Go.Proofs.YtdmfhdnpakgkpaaDoor.Sh
open Go
set_option maxRecDepth 100000

theorem resH_pre (h : SHeap) (cs : List Value) (n : Nat) (el : TypeId) : ∃ g, resH h cs n el = h ++ g := by
  unfold resH; split
  · exact ⟨[], by simp⟩
  · exact ⟨_, rfl⟩
theorem PS.ofRes (h g : SHeap) (L : List (Int × Int)) (el : TypeId) : PS (resH h (prs L) L.length el ++ g) (resV h L.length 2) L := by
  by_cases hn : L.length = 0
  · have : L = [] := List.length_eq_zero_iff.1 hn
    subst this
    exact ⟨none, 0, rfl, fun h => (h rfl).elim⟩
  · simp only [resH, resV, hn, if_false]
    rw [List.append_assoc]
    exact PS.mk0 (el := el) (by rw [app_get0]; rfl) rfl
end Go.Proofs.YtdmfhdnpakgkpaaDoor.Sh

