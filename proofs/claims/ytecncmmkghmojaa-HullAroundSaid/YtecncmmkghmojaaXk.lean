/- Area and Middle, the program's and the document's. -/
import Derived.Test.YtecncmmkghmojaaH7
set_option linter.all false
namespace Go.Proofs.Ytecncmmkghmojaa.Sh
open Go Geo
set_option maxRecDepth 100000

/-- a call that has opened a hull -/
def opened (h : SHeap) (l : List (Int × Int)) : SHeap := h ++ [.cells [.slice (some ⟨h.length + 1, 0, none⟩) l.length (UNK + 2), .int .i64 (mX l), .int .i64 (mY l), .int .i64 (mD l)] 79 false 0 [], .cells (prs l) 77 true 0 []]
/-- corners of an argument, read in a longer heap -/
theorem Prs.corner {h : SHeap} {b o : Nat} {l : List (Int × Int)} (k : Prs h b o l) {i : Nat} (hi : i < l.length) (e : List SO) : loadS (h ++ e) (some 2) (.pointer (some ⟨b, o + i * 2, none⟩)) = some (.agg #[.int .i64 (cn l i).1, .int .i64 (cn l i).2]) := by
  have := (k.app e).loadN hi
  rw [this]
  unfold cn
  rw [List.getD_eq_getElem?_getD, List.getElem?_eq_getElem hi]; rfl
theorem Ext.prs {h h' : SHeap} {b o : Nat} {l : List (Int × Int)} (e : Ext h h') (k : Prs h b o l) : Prs h' b o l := by
  obtain ⟨g, rfl⟩ := e
  exact k.app g
end Go.Proofs.Ytecncmmkghmojaa.Sh

