/- Area and Middle, the program's and the document's. -/
import Derived.Test.YtecncmmkghmojaaXj
set_option linter.all false
namespace Go.Proofs.Ytecncmmkghmojaa.Sh
open Go Geo
set_option maxRecDepth 100000

/-- a call that has opened a hull -/
def opened (h : SHeap) (l : List (Int × Int)) : SHeap := h ++ [.cells [.slice (some ⟨h.length + 1, 0, none⟩) l.length (UNK + 2), .int .i64 (mX l), .int .i64 (mY l), .int .i64 (mD l)] 79 false 0 [], .cells (prs l) 77 true 0 []]
theorem opened_body (h : SHeap) (l : List (Int × Int)) : Body (opened h l) h.length (h.length + 1) (UNK + 2) l (mX l) (mY l) (mD l) :=
  ⟨by unfold opened; rw [app_get0]; rfl, Prs.mk0 (by unfold opened; rw [app_get]; rfl) rfl⟩
theorem opened_take (h : SHeap) (l : List (Int × Int)) : (opened h l).take h.length = h := take_app _ _
theorem open62' {h : SHeap} {v : Value} {l : List (Int × Int)} (hv : PS h v l) (T : Tame l) : M.call 62 [v] h = some (.tuple #[.pointer (some ⟨h.length, 0, none⟩), .int .i64 0], opened h l, []) := open62 hv T

/-- corners of an argument, read in a longer heap -/
theorem Prs.corner {h : SHeap} {b o : Nat} {l : List (Int × Int)} (k : Prs h b o l) {i : Nat} (hi : i < l.length) (e : List SO) : loadS (h ++ e) (some 2) (.pointer (some ⟨b, o + i * 2, none⟩)) = some (.agg #[.int .i64 (cn l i).1, .int .i64 (cn l i).2]) := by
  have := (k.app e).loadN hi
  rw [this]
  unfold cn
  rw [List.getD_eq_getElem?_getD, List.getElem?_eq_getElem hi]; rfl
theorem Ext.prs {h h' : SHeap} {b o : Nat} {l : List (Int × Int)} (e : Ext h h') (k : Prs h b o l) : Prs h' b o l := by
  obtain ⟨g, rfl⟩ := e
  exact k.app g
end Go.Proofs.Ytecncmmkghmojaa.Sh

