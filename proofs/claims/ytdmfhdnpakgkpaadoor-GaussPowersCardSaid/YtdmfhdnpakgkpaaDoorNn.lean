/- Numbers of the chapter: the first of the associates, the program's and the document's. -/
import Derived.Test.YtdmfhdnpakgkpaaDoorNm
set_option linter.all false
namespace Go.Proofs.YtdmfhdnpakgkpaaDoor.Sh
open Go
set_option maxRecDepth 100000

theorem JF.cut {n : Nat} {x : Int × Int} {t : T} {H h : SHeap} (J : JF n x t H h) : JF n x t H (h.take (n + 5)) := by
  have jl := J.len
  have key : ∀ j, j < n + 5 → (h.take (n + 5))[j]? = h[j]? := fun j hj => by rw [List.getElem?_take, if_pos hj]
  exact ⟨by simp; omega, fun j hj => by rw [key j (by omega)]; exact J.low j hj, by rw [key _ (by omega)]; exact J.c0, by rw [key _ (by omega)]; exact J.c1, by rw [key _ (by omega)]; exact J.c2, by rw [key _ (by omega)]; exact J.df, by rw [key _ (by omega)]; exact J.lp⟩
theorem JG.cut {n : Nat} {x u : Int × Int} {t : T} {H h : SHeap} (J : JG n x u t H h) : JG n x u t H (h.take (n + 5)) := by
  have jl := J.len
  have key : ∀ j, j < n + 5 → (h.take (n + 5))[j]? = h[j]? := fun j hj => by rw [List.getElem?_take, if_pos hj]
  exact ⟨by simp; omega, fun j hj => by rw [key j (by omega)]; exact J.low j hj, by rw [key _ (by omega)]; exact J.c1, by rw [key _ (by omega)]; exact J.c2, by rw [key _ (by omega)]; exact J.df, by rw [key _ (by omega)]; exact J.lp⟩

end Go.Proofs.YtdmfhdnpakgkpaaDoor.Sh

