/- Area and Middle, the program's and the document's. -/
import Derived.Test.YtecncmmkghmojaaH7
set_option linter.all false
namespace Go.Proofs.Ytecncmmkghmojaa.Sh
open Go Geo
set_option maxRecDepth 100000

/-- a call that has opened a hull -/
def opened (h : SHeap) (l : List (Int × Int)) : SHeap := h ++ [.cells [.slice (some ⟨h.length + 1, 0, none⟩) l.length (UNK + 2), .int .i64 (mX l), .int .i64 (mY l), .int .i64 (mD l)] 79 false 0 [], .cells (prs l) 77 true 0 []]
theorem opened_body (h : SHeap) (l : List (Int × Int)) : Body (opened h l) h.length (h.length + 1) (UNK + 2) l (mX l) (mY l) (mD l) :=
  ⟨by unfold opened; rw [app_get0]; rfl, Prs.mk0 (by unfold opened; rw [app_get]; rfl) rfl⟩
theorem opened_take (h : SHeap) (l : List (Int × Int)) : (opened h l).take h.length = h := take_app _ _
theorem open62' {h : SHeap} {v : Value} {l : List (Int × Int)} (hv : PS h v l) (T : Tame l) : M.call 62 [v] h = some (.tuple #[.pointer (some ⟨h.length, 0, none⟩), .int .i64 0], opened h l, []) := open62 hv T

/-- Area -/
theorem area19 {h : SHeap} {v : Value} {l : List (Int × Int)} (hv : PS h v l) (T : Tame l) : M.call 19 [v] h = some (.tuple #[.int .i64 (areaZ l), .int .i64 0], h, []) := by
  have c := open62' hv T
  have sa := area63 (opened_body h l) T.inr (by have := T.lo; omega) T.hi
  have ot := opened_take h l
  generalize opened h l = H at *
  refine call_run sf19 rfl rfl rfl ?_
  unfold sf19
  repeat (first | apply run_seq | apply run_block | apply end_seq | apply end_blk_hit | apply end_blk_miss rfl | apply end_blk | apply end_seq_exit | apply end_seq_ret | apply end_blk_ret | apply run_skip | apply run_ret | apply run_exit | (apply run_region (by decide); (simp only [go_sem, ↓reduceIte, Int.reduceAdd, Int.reduceEq, Int.reduceLE, Int.reduceLT, Int.reduceMul, Int.reduceNeg, Int.reduceSub, Int.reduceToNat, Nat.reduceAdd, Nat.reduceBEq, Nat.reduceEqDiff, Nat.reduceLT, Nat.reduceLeDiff, Nat.reduceMul, Nat.reduceSub, argR, c, sa]; rfl)) | (refine run_cond_t ?_ ?_; · simp only [go_sem, ↓reduceIte, Nat.reduceEqDiff]) | (refine run_cond_f ?_ ?_; · simp only [go_sem, ↓reduceIte, Nat.reduceEqDiff]))
  exact end_nil (q_ret2 _ _ (by simp only [go_sem, ↓reduceIte, Int.reduceAdd, Int.reduceEq, Int.reduceLE, Int.reduceLT, Int.reduceMul, Int.reduceNeg, Int.reduceSub, Int.reduceToNat, Nat.reduceAdd, Nat.reduceBEq, Nat.reduceEqDiff, Nat.reduceLT, Nat.reduceLeDiff, Nat.reduceMul, Nat.reduceSub]) (by simp only [go_sem, ↓reduceIte, Int.reduceAdd, Int.reduceEq, Int.reduceLE, Int.reduceLT, Int.reduceMul, Int.reduceNeg, Int.reduceSub, Int.reduceToNat, Nat.reduceAdd, Nat.reduceBEq, Nat.reduceEqDiff, Nat.reduceLT, Nat.reduceLeDiff, Nat.reduceMul, Nat.reduceSub]) rfl rfl ot)

/-- corners of an argument, read in a longer heap -/
theorem Prs.corner {h : SHeap} {b o : Nat} {l : List (Int × Int)} (k : Prs h b o l) {i : Nat} (hi : i < l.length) (e : List SO) : loadS (h ++ e) (some 2) (.pointer (some ⟨b, o + i * 2, none⟩)) = some (.agg #[.int .i64 (cn l i).1, .int .i64 (cn l i).2]) := by
  have := (k.app e).loadN hi
  rw [this]
  unfold cn
  rw [List.getD_eq_getElem?_getD, List.getElem?_eq_getElem hi]; rfl
theorem Ext.prs {h h' : SHeap} {b o : Nat} {l : List (Int × Int)} (e : Ext h h') (k : Prs h b o l) : Prs h' b o l := by
  obtain ⟨g, rfl⟩ := e
  exact k.app g
end Go.Proofs.Ytecncmmkghmojaa.Sh

