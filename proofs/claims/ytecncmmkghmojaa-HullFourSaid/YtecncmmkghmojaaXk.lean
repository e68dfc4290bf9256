/- Area and Middle, the program's and the document's. -/
import Derived.Test.YtecncmmkghmojaaXj
set_option linter.all false
namespace Go.Proofs.Ytecncmmkghmojaa.Sh
open Go Geo
set_option maxRecDepth 100000

/-- a call that has opened a hull -/
def opened (h : SHeap) (l : List (Int × Int)) : SHeap := h ++ [.cells [.slice (some ⟨h.length + 1, 0, none⟩) l.length (UNK + 2), .int .i64 (mX l), .int .i64 (mY l), .int .i64 (mD l)] 79 false 0 [], .cells (prs l) 77 true 0 []]
theorem opened_body (h : SHeap) (l : List (Int × Int)) : Body (opened h l) h.length (h.length + 1) (UNK + 2) l (mX l) (mY l) (mD l) :=
  ⟨by unfold opened; rw [app_get0]; rfl, Prs.mk0 (by unfold opened; rw [app_get]; rfl) rfl⟩
theorem opened_take (h : SHeap) (l : List (Int × Int)) : (opened h l).take h.length = h := take_app _ _
theorem open62' {h : SHeap} {v : Value} {l : List (Int × Int)} (hv : PS h v l) (T : Tame l) : M.call 62 [v] h = some (.tuple #[.pointer (some ⟨h.length, 0, none⟩), .int .i64 0], opened h l, []) := open62 hv T

/-- Middle -/
theorem middle20 {h : SHeap} {v : Value} {l : List (Int × Int)} (hv : PS h v l) (T : Tame l) : M.call 20 [v] h = some (.tuple #[.agg #[.int .i64 (mX l), .int .i64 (mY l), .int .i64 (mD l)], .int .i64 0], h, []) := by
  have c := open62' (hv.app [SO.cells [.int .i64 0, .int .i64 0, .int .i64 0] 27 true 0 []]) T
  have hb := (opened_body (h ++ [SO.cells [.int .i64 0, .int .i64 0, .int .i64 0] 27 true 0 []]) l).1
  have hl : (h ++ [SO.cells [.int .i64 0, .int .i64 0, .int .i64 0] 27 true 0 []]).length = h.length + 1 := by simp
  have h0 : (opened (h ++ [SO.cells [.int .i64 0, .int .i64 0, .int .i64 0] 27 true 0 []]) l)[h.length]? = some (.cells [.int .i64 0, .int .i64 0, .int .i64 0] 27 true 0 []) := by
    unfold opened; rw [List.append_assoc, app_get0]; rfl
  have h1 : (opened (h ++ [SO.cells [.int .i64 0, .int .i64 0, .int .i64 0] 27 true 0 []]) l).take h.length = h := by
    unfold opened; rw [List.append_assoc, take_app]
  have h2 : h.length < (opened (h ++ [SO.cells [.int .i64 0, .int .i64 0, .int .i64 0] 27 true 0 []]) l).length := by unfold opened; simp
  rw [hl] at c hb
  generalize opened (h ++ [SO.cells [.int .i64 0, .int .i64 0, .int .i64 0] 27 true 0 []]) l = H at *
  have m1 : loadS H none (.pointer (some ⟨h.length + 1, 1, none⟩)) = some (.int .i64 (mX l)) := by rw [load_rdO, hb]; rfl
  have m2 : loadS H none (.pointer (some ⟨h.length + 1, 2, none⟩)) = some (.int .i64 (mY l)) := by rw [load_rdO, hb]; rfl
  have m3 : loadS H none (.pointer (some ⟨h.length + 1, 3, none⟩)) = some (.int .i64 (mD l)) := by rw [load_rdO, hb]; rfl
  refine call_run sf20 rfl rfl rfl ?_
  unfold sf20
  repeat (first | apply run_seq | apply run_block | apply end_seq | apply end_blk_hit | apply end_blk_miss rfl | apply end_blk | apply end_seq_exit | apply end_seq_ret | apply end_blk_ret | apply run_skip | apply run_ret | apply run_exit | (apply run_region (by decide); (simp only [go_sem, ↓reduceIte, Int.reduceAdd, Int.reduceEq, Int.reduceLE, Int.reduceLT, Int.reduceMul, Int.reduceNeg, Int.reduceSub, Int.reduceToNat, Nat.reduceAdd, Nat.reduceBEq, Nat.reduceEqDiff, Nat.reduceLT, Nat.reduceLeDiff, Nat.reduceMul, Nat.reduceSub, argR, c, m1, m2, m3, h0]; rfl)) | (refine run_cond_t ?_ ?_; · simp only [go_sem, ↓reduceIte, Nat.reduceEqDiff]) | (refine run_cond_f ?_ ?_; · simp only [go_sem, ↓reduceIte, Nat.reduceEqDiff]))
  refine end_nil (q_cell_tmp (FT := FT) (n := 3) [.int .i64 (mX l), .int .i64 (mY l), .int .i64 (mD l)] _ ?_ (by simp only [go_sem, ↓reduceIte, Int.reduceAdd, Int.reduceEq, Int.reduceLE, Int.reduceLT, Int.reduceMul, Int.reduceNeg, Int.reduceSub, Int.reduceToNat, Nat.reduceAdd, Nat.reduceBEq, Nat.reduceEqDiff, Nat.reduceLT, Nat.reduceLeDiff, Nat.reduceMul, Nat.reduceSub]) rfl rfl ⟨some ⟨h.length, 0, none⟩, by simp only [go_sem, ↓reduceIte, Int.reduceAdd, Int.reduceEq, Int.reduceLE, Int.reduceLT, Int.reduceMul, Int.reduceNeg, Int.reduceSub, Int.reduceToNat, Nat.reduceAdd, Nat.reduceBEq, Nat.reduceEqDiff, Nat.reduceLT, Nat.reduceLeDiff, Nat.reduceMul, Nat.reduceSub]⟩ ?_)
  · simp only [go_sem, ↓reduceIte, Int.reduceAdd, Int.reduceEq, Int.reduceLE, Int.reduceLT, Int.reduceMul, Int.reduceNeg, Int.reduceSub, Int.reduceToNat, Nat.reduceAdd, Nat.reduceBEq, Nat.reduceEqDiff, Nat.reduceLT, Nat.reduceLeDiff, Nat.reduceMul, Nat.reduceSub]
    rw [load_rdON, List.getElem?_set_self h2]; rfl
  · rw [take_set (Nat.le_refl _)]; exact h1

/-- corners of an argument, read in a longer heap -/
theorem Prs.corner {h : SHeap} {b o : Nat} {l : List (Int × Int)} (k : Prs h b o l) {i : Nat} (hi : i < l.length) (e : List SO) : loadS (h ++ e) (some 2) (.pointer (some ⟨b, o + i * 2, none⟩)) = some (.agg #[.int .i64 (cn l i).1, .int .i64 (cn l i).2]) := by
  have := (k.app e).loadN hi
  rw [this]
  unfold cn
  rw [List.getD_eq_getElem?_getD, List.getElem?_eq_getElem hi]; rfl
theorem Ext.prs {h h' : SHeap} {b o : Nat} {l : List (Int × Int)} (e : Ext h h') (k : Prs h b o l) : Prs h' b o l := by
  obtain ⟨g, rfl⟩ := e
  exact k.app g
end Go.Proofs.Ytecncmmkghmojaa.Sh

