/- Numbers of the document: norm, product, sum, difference, quotient, rest. -/
import Derived.Test.YtdmfhdnpakgkpaaDoorNd
set_option linter.all false
namespace Go.Proofs.YtdmfhdnpakgkpaaDoor.Sh
open Go
set_option maxRecDepth 100000

theorem validR26 (p : Int × Int) (h : SHeap) : M.call 26 [.agg #[.int .i64 p.1, .int .i64 p.2]] h = some (.bool (decide (Bd 30000 p)), h, []) := by
  refine call_run sf26 rfl rfl rfl ?_
  unfold sf26
  by_cases c1 : -30000 ≤ p.1
  · by_cases c2 : p.1 ≤ 30000
    · by_cases c3 : -30000 ≤ p.2
      · by_cases c4 : p.2 ≤ 30000
        · rw [decide_eq_true (show Bd 30000 p from ⟨c1, c2, c3, c4⟩)]
          repeat (first | apply run_seq | apply run_block | apply end_seq | apply end_blk_hit | apply end_blk_miss rfl | apply end_blk | apply end_seq_exit | apply end_seq_ret | apply end_blk_ret | apply run_skip | apply run_ret | apply run_exit | (apply run_region (by decide); (simp only [go_sem, argR, c1, c2, c3, c4]; rfl)) | (apply run_regionN (by decide); (simp only [go_sem, argR, c1, c2, c3, c4]; rfl)) | (refine run_cond_t ?_ ?_; · simp only [go_sem]) | (refine run_cond_f ?_ ?_; · simp only [go_sem]))
          exact end_nil (q_ret1 _ (by simp only [go_sem]) rfl (take_app _ _))
        · rw [decide_eq_false (show ¬ Bd 30000 p from fun e => c4 e.2.2.2)]
          repeat (first | apply run_seq | apply run_block | apply end_seq | apply end_blk_hit | apply end_blk_miss rfl | apply end_blk | apply end_seq_exit | apply end_seq_ret | apply end_blk_ret | apply run_skip | apply run_ret | apply run_exit | (apply run_region (by decide); (simp only [go_sem, argR, c1, c2, c3, c4]; rfl)) | (apply run_regionN (by decide); (simp only [go_sem, argR, c1, c2, c3, c4]; rfl)) | (refine run_cond_t ?_ ?_; · simp only [go_sem]) | (refine run_cond_f ?_ ?_; · simp only [go_sem]))
          exact end_nil (q_ret1 _ (by simp only [go_sem]) rfl (take_app _ _))
      · rw [decide_eq_false (show ¬ Bd 30000 p from fun e => c3 e.2.2.1)]
        repeat (first | apply run_seq | apply run_block | apply end_seq | apply end_blk_hit | apply end_blk_miss rfl | apply end_blk | apply end_seq_exit | apply end_seq_ret | apply end_blk_ret | apply run_skip | apply run_ret | apply run_exit | (apply run_region (by decide); (simp only [go_sem, argR, c1, c2, c3]; rfl)) | (apply run_regionN (by decide); (simp only [go_sem, argR, c1, c2, c3]; rfl)) | (refine run_cond_t ?_ ?_; · simp only [go_sem]) | (refine run_cond_f ?_ ?_; · simp only [go_sem]))
        exact end_nil (q_ret1 _ (by simp only [go_sem]) rfl (take_app _ _))
    · rw [decide_eq_false (show ¬ Bd 30000 p from fun e => c2 e.2.1)]
      repeat (first | apply run_seq | apply run_block | apply end_seq | apply end_blk_hit | apply end_blk_miss rfl | apply end_blk | apply end_seq_exit | apply end_seq_ret | apply end_blk_ret | apply run_skip | apply run_ret | apply run_exit | (apply run_region (by decide); (simp only [go_sem, argR, c1, c2]; rfl)) | (apply run_regionN (by decide); (simp only [go_sem, argR, c1, c2]; rfl)) | (refine run_cond_t ?_ ?_; · simp only [go_sem]) | (refine run_cond_f ?_ ?_; · simp only [go_sem]))
      exact end_nil (q_ret1 _ (by simp only [go_sem]) rfl (take_app _ _))
  · rw [decide_eq_false (show ¬ Bd 30000 p from fun e => c1 e.1)]
    repeat (first | apply run_seq | apply run_block | apply end_seq | apply end_blk_hit | apply end_blk_miss rfl | apply end_blk | apply end_seq_exit | apply end_seq_ret | apply end_blk_ret | apply run_skip | apply run_ret | apply run_exit | (apply run_region (by decide); (simp only [go_sem, argR, c1]; rfl)) | (apply run_regionN (by decide); (simp only [go_sem, argR, c1]; rfl)) | (refine run_cond_t ?_ ?_; · simp only [go_sem]) | (refine run_cond_f ?_ ?_; · simp only [go_sem]))
    exact end_nil (q_ret1 _ (by simp only [go_sem]) rfl (take_app _ _))

end Go.Proofs.YtdmfhdnpakgkpaaDoor.Sh

