/- Numbers of the chapter: Check, Norm, and whether they are prime. -/
import Derived.Test.YtdmfhdnpakgkpaaDoorNc
set_option linter.all false
namespace Go.Proofs.YtdmfhdnpakgkpaaDoor.Sh
open Go
set_option maxRecDepth 100000

/-- Check -/
theorem check57 (p : Int × Int) (h : SHeap) : M.call 57 [.agg #[.int .i64 p.1, .int .i64 p.2]] h = some (.int .i64 (if Bd 30000 p then 0 else 70), h, []) := by
  have c64 := open64 (h := h ++ [SO.cells [.int .i64 p.1, .int .i64 p.2] 34 true 0 [], SO.cells [.int .i64 p.1, .int .i64 p.2] 68 true 0 []]) (v := .slice (some ⟨h.length + 1, 0, none⟩) 1 1) (a := [p]) (PS.mk0 (el := 68) (by rw [app_get]; rfl) rfl) (by simp)
  have e : openE [p] = if Bd 30000 p then 0 else 70 := by simp [openE]
  rw [e] at c64
  refine call_run sf57 rfl rfl rfl ?_
  unfold sf57
  repeat (first | apply run_seq | apply run_block | apply end_seq | apply end_blk_hit | apply end_blk_miss rfl | apply end_blk | apply end_seq_exit | apply end_seq_ret | apply end_blk_ret | apply run_skip | apply run_ret | apply run_exit | (apply run_region (by decide); (simp (maxSteps := 9999999) only [go_sem, argR, c64]; rfl)) | (apply run_regionN (by decide); (simp (maxSteps := 9999999) only [go_sem, argR, c64]; rfl)) | (refine run_cond_t ?_ ?_; · simp only [go_sem]) | (refine run_cond_f ?_ ?_; · simp only [go_sem]))
  exact end_nil (q_ret1 _ (by simp (maxSteps := 9999999) only [go_sem]) rfl (take_app _ _))

/-- Norm -/
theorem norm32 {p : Int × Int} (hp : Bd 30000 p) (h : SHeap) : M.call 32 [.agg #[.int .i64 p.1, .int .i64 p.2]] h = some (.tuple #[.int .i64 (nrm p), .int .i64 0], h, []) := by
  have c57 := fun h => check57 p h
  simp only [hp, if_true] at c57
  have c59 := fun h => norm59 hp (by decide) h
  refine call_run sf32 rfl rfl rfl ?_
  unfold sf32
  repeat (first | apply run_seq | apply run_block | apply end_seq | apply end_blk_hit | apply end_blk_miss rfl | apply end_blk | apply end_seq_exit | apply end_seq_ret | apply end_blk_ret | apply run_skip | apply run_ret | apply run_exit | (apply run_region (by decide); (simp (maxSteps := 9999999) only [go_sem, argR, c57, c59]; rfl)) | (apply run_regionN (by decide); (simp (maxSteps := 9999999) only [go_sem, argR, c57, c59]; rfl)) | (refine run_cond_t ?_ ?_; · simp only [go_sem]) | (refine run_cond_f ?_ ?_; · simp only [go_sem]))
  exact end_nil (q_ret2 _ _ (by simp (maxSteps := 9999999) only [go_sem]) (by simp (maxSteps := 9999999) only [go_sem]) rfl rfl (take_app _ _))
end Go.Proofs.YtdmfhdnpakgkpaaDoor.Sh

