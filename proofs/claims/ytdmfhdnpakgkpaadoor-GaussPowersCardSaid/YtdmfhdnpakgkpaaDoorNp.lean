/- Numbers: First of the document; Divides, the program's and the document's. -/
import Derived.Test.YtdmfhdnpakgkpaaDoorNo
set_option linter.all false
namespace Go.Proofs.YtdmfhdnpakgkpaaDoor.Sh
open Go
set_option maxRecDepth 100000

theorem one_mul (p : Int × Int) : mulP (1, 0) p = p := by unfold mulP; refine Prod.ext ?_ ?_ <;> dsimp only <;> omega

theorem eqZ (p : Int × Int) : eqS (.agg [.int, .int]) (.agg #[.int .i64 p.1, .int .i64 p.2]) (.agg #[.int .i64 0, .int .i64 0]) = some (decide (p = (0, 0))) := eqP p (0, 0)
attribute [go_sem ↓ high] eqZ
theorem rest56 {x y : Int × Int} {X Y : Int} (hx : Bd X x) (hy : Bd Y y) (hXY : X * Y ≤ 1125899906842624) (hX : X ≤ 1125899906842624) (hY : Y * Y ≤ 1125899906842624) (h0 : y ≠ (0, 0)) (h : SHeap) :
    M.call 56 [agV x, agV y] h = some (agV (restP x y), h, []) := by
  have c44 := fun h => quoR44 hx hy hXY hX hY h0 h
  refine call_run sf56 rfl rfl rfl ?_
  unfold sf56
  repeat (first | apply run_seq | apply run_block | apply end_seq | apply end_blk_hit | apply end_blk_miss rfl | apply end_blk | apply end_seq_exit | apply end_seq_ret | apply end_blk_ret | apply run_skip | apply run_ret | apply run_exit | (apply run_region (by decide); (simp (maxSteps := 9999999) only [go_sem, argR, c44]; rfl)) | (apply run_regionN (by decide); (simp (maxSteps := 9999999) only [go_sem, argR, c44]; rfl)) | (refine run_cond_t ?_ ?_; · simp only [go_sem]) | (refine run_cond_f ?_ ?_; · simp only [go_sem]))
  exact end_nil (q_free [agV (restP x y)] (by simp (maxSteps := 9999999) only [go_sem]) rfl rfl rfl (fun _ => rfl) (take_app _ _) rfl)
end Go.Proofs.YtdmfhdnpakgkpaaDoor.Sh

