/- GaussMuls: the law. -/
import Derived.Test.YtdmfhdnpakgkpaaDoorNq
set_option linter.all false
namespace Go.Proofs.YtdmfhdnpakgkpaaDoor.Sh
open Go
set_option maxRecDepth 100000
set_option maxHeartbeats 4000000

/-- GaussMuls on the shadow machine -/
theorem law9 (x y : Int × Int) (z : Int) (h : SHeap) : M.call 9 [agV x, agV y, .int .i64 z] h = some (.bool true, h, []) := by
  obtain ⟨q1, q2⟩ := u64_mod' z 30000 (by decide)
  generalize hq : (IntKind.u64.wrap z).tmod 30000 = q at *
  have w1 : IntKind.i64.wrap q = q := wrap64 (by omega) (by omega)
  have w2 : IntKind.i64.wrap (1 + q) = 1 + q := wrap64 (by omega) (by omega)
  have tx := fun h => tame29 x (m := 1 + q) (by omega) (by omega) h
  have ty := fun h => tame29 y (m := 1 + q) (by omega) (by omega) h
  have bX := (tame_bd x (m := 1 + q) (by omega)).mono (show 1 + q ≤ 30000 by omega)
  have bY := (tame_bd y (m := 1 + q) (by omega)).mono (show 1 + q ≤ 30000 by omega)
  generalize tameP x (1 + q) = u at *
  generalize tameP y (1 + q) = v at *
  have c32 := fun h => norm32 bX h
  have c42 := fun h => first42 bX h
  have c35 := fun h => mulR35 bX bY (by decide) h
  have c27 := fun h => normR27 bX (by decide) h
  have c43 := fun h => firstR43 (bX.mono (show (30000 : Int) ≤ 1000000000 by decide)) h
  have c26 := fun h => validR26 (mulP u v) h
  have c31 : ∃ r e, (∀ h, M.call 31 [agV u, agV v] h = some (.tuple #[agV r, .int .i64 e], h, [])) ∧ ((Bd 30000 (mulP u v) ∧ r = mulP u v ∧ e = 0) ∨ (¬ Bd 30000 (mulP u v) ∧ r = (0, 0) ∧ e = 8)) := by
    by_cases c : Bd 30000 (mulP u v)
    · exact ⟨_, _, fun h => mul31 bX bY c h, .inl ⟨c, rfl, rfl⟩⟩
    · exact ⟨(0, 0), 8, fun h => mul31_big bX bY c h, .inr ⟨c, rfl, rfl⟩⟩
  obtain ⟨r, e, c31, hc⟩ := c31
  refine call_run sf9 rfl rfl rfl ?_
  unfold sf9
  show Run M _ 8 _ _ _ _ _ _ _
  by_cases hv : v = (0, 0)
  · have c33 := fun h => quo33_0 bX h
    have hv' : (v = (0, 0)) = True := eq_true hv
    rcases hc with ⟨c, rfl, rfl⟩ | ⟨c, rfl, rfl⟩
    · rw [decide_eq_true c] at c26
      subst hv
      repeat (first | apply run_seq | apply run_block | apply end_seq | apply end_blk_hit | apply end_blk_miss rfl | apply end_blk | apply end_seq_exit | apply end_seq_ret | apply end_blk_ret | apply run_skip | apply run_ret | apply run_exit | (apply run_region (by decide); (simp (maxSteps := 9999999) only [go_sem, argR, hq, w1, w2, tx, ty, c32, c42, c35, c27, c43, c26, c31, c33, awake_call]; rfl)) | (apply run_regionN (by decide); (simp (maxSteps := 9999999) only [go_sem, argR, hq, w1, w2, tx, ty, c32, c42, c35, c27, c43, c26, c31, c33, awake_call]; rfl)) | (refine run_cond_t ?_ ?_; · simp only [go_sem]) | (refine run_cond_f ?_ ?_; · simp only [go_sem]))
      exact end_nil (q_ret1 _ (by simp (maxSteps := 9999999) only [go_sem]) rfl (take_app _ _))
    · subst hv
      exact (c (by rw [show mulP u (0, 0) = (0, 0) by unfold mulP; refine Prod.ext ?_ ?_ <;> dsimp only <;> omega]; decide)).elim
  · have c33 := fun h => quo33 bX bY hv h
    have c44 := fun h => quoR44 bX bY (by decide) (by decide) (by decide) hv h
    have hv' : (v = (0, 0)) = False := eq_false hv
    rcases hc with ⟨c, rfl, rfl⟩ | ⟨c, rfl, rfl⟩
    · rw [decide_eq_true c] at c26
      repeat (first | apply run_seq | apply run_block | apply end_seq | apply end_blk_hit | apply end_blk_miss rfl | apply end_blk | apply end_seq_exit | apply end_seq_ret | apply end_blk_ret | apply run_skip | apply run_ret | apply run_exit | (apply run_region (by decide); (simp (maxSteps := 9999999) only [go_sem, argR, hq, w1, w2, tx, ty, c32, c42, c35, c27, c43, c26, c31, c33, c44, hv', awake_call]; rfl)) | (apply run_regionN (by decide); (simp (maxSteps := 9999999) only [go_sem, argR, hq, w1, w2, tx, ty, c32, c42, c35, c27, c43, c26, c31, c33, c44, hv', awake_call]; rfl)) | (refine run_cond_t ?_ ?_; · simp only [go_sem]) | (refine run_cond_f ?_ ?_; · simp only [go_sem]))
      exact end_nil (q_ret1 _ (by simp (maxSteps := 9999999) only [go_sem]) rfl (take_app _ _))
    · rw [decide_eq_false c] at c26
      repeat (first | apply run_seq | apply run_block | apply end_seq | apply end_blk_hit | apply end_blk_miss rfl | apply end_blk | apply end_seq_exit | apply end_seq_ret | apply end_blk_ret | apply run_skip | apply run_ret | apply run_exit | (apply run_region (by decide); (simp (maxSteps := 9999999) only [go_sem, argR, hq, w1, w2, tx, ty, c32, c42, c35, c27, c43, c26, c31, c33, c44, hv', awake_call]; rfl)) | (apply run_regionN (by decide); (simp (maxSteps := 9999999) only [go_sem, argR, hq, w1, w2, tx, ty, c32, c42, c35, c27, c43, c26, c31, c33, c44, hv', awake_call]; rfl)) | (refine run_cond_t ?_ ?_; · simp only [go_sem]) | (refine run_cond_f ?_ ?_; · simp only [go_sem]))
      exact end_nil (q_ret1 _ (by simp (maxSteps := 9999999) only [go_sem]) rfl (take_app _ _))
end Go.Proofs.YtdmfhdnpakgkpaaDoor.Sh

