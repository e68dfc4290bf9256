/- Numbers of the document: norm, product, sum, difference, quotient, rest. -/
import Derived.Test.YtdmfhdnpakgkpaaDoorH18
set_option linter.all false
namespace Go.Proofs.YtdmfhdnpakgkpaaDoor.Sh
open Go
set_option maxRecDepth 100000

theorem normR27 {p : Int × Int} {A : Int} (hp : Bd A p) (hA : A * A ≤ 2305843009213693952) (h : SHeap) :
    M.call 27 [.agg #[.int .i64 p.1, .int .i64 p.2]] h = some (.int .i64 (nrm p), h, []) := by
  obtain ⟨w1, w2, w3, _, _⟩ := nrm_w hp hA
  refine call_run sf27 rfl rfl rfl ?_
  unfold sf27
  repeat (first | apply run_seq | apply run_block | apply end_seq | apply end_blk_hit | apply end_blk_miss rfl | apply end_blk | apply end_seq_exit | apply end_seq_ret | apply end_blk_ret | apply run_skip | apply run_ret | apply run_exit | (apply run_region (by decide); (simp (maxSteps := 9999999) only [go_sem, argR, w1, w2, w3]; rfl)) | (apply run_regionN (by decide); (simp (maxSteps := 9999999) only [go_sem, argR, w1, w2, w3]; rfl)) | (refine run_cond_t ?_ ?_; · simp only [go_sem]) | (refine run_cond_f ?_ ?_; · simp only [go_sem]))
  exact end_nil (q_ret1 _ (by simp (maxSteps := 9999999) only [go_sem]) rfl (take_app _ _))

theorem validR26 (p : Int × Int) (h : SHeap) : M.call 26 [.agg #[.int .i64 p.1, .int .i64 p.2]] h = some (.bool (decide (Bd 30000 p)), h, []) := by
  refine call_run sf26 rfl rfl rfl ?_
  unfold sf26
  by_cases c1 : -30000 ≤ p.1
  · by_cases c2 : p.1 ≤ 30000
    · by_cases c3 : -30000 ≤ p.2
      · by_cases c4 : p.2 ≤ 30000
        · rw [decide_eq_true (show Bd 30000 p from ⟨c1, c2, c3, c4⟩)]
          repeat (first | apply run_seq | apply run_block | apply end_seq | apply end_blk_hit | apply end_blk_miss rfl | apply end_blk | apply end_seq_exit | apply end_seq_ret | apply end_blk_ret | apply run_skip | apply run_ret | apply run_exit | (apply run_region (by decide); (simp (maxSteps := 9999999) only [go_sem, argR, c1, c2, c3, c4]; rfl)) | (apply run_regionN (by decide); (simp (maxSteps := 9999999) only [go_sem, argR, c1, c2, c3, c4]; rfl)) | (refine run_cond_t ?_ ?_; · simp only [go_sem]) | (refine run_cond_f ?_ ?_; · simp only [go_sem]))
          exact end_nil (q_ret1 _ (by simp (maxSteps := 9999999) only [go_sem]) rfl (take_app _ _))
        · rw [decide_eq_false (show ¬ Bd 30000 p from fun e => c4 e.2.2.2)]
          repeat (first | apply run_seq | apply run_block | apply end_seq | apply end_blk_hit | apply end_blk_miss rfl | apply end_blk | apply end_seq_exit | apply end_seq_ret | apply end_blk_ret | apply run_skip | apply run_ret | apply run_exit | (apply run_region (by decide); (simp (maxSteps := 9999999) only [go_sem, argR, c1, c2, c3, c4]; rfl)) | (apply run_regionN (by decide); (simp (maxSteps := 9999999) only [go_sem, argR, c1, c2, c3, c4]; rfl)) | (refine run_cond_t ?_ ?_; · simp only [go_sem]) | (refine run_cond_f ?_ ?_; · simp only [go_sem]))
          exact end_nil (q_ret1 _ (by simp (maxSteps := 9999999) only [go_sem]) rfl (take_app _ _))
      · rw [decide_eq_false (show ¬ Bd 30000 p from fun e => c3 e.2.2.1)]
        repeat (first | apply run_seq | apply run_block | apply end_seq | apply end_blk_hit | apply end_blk_miss rfl | apply end_blk | apply end_seq_exit | apply end_seq_ret | apply end_blk_ret | apply run_skip | apply run_ret | apply run_exit | (apply run_region (by decide); (simp (maxSteps := 9999999) only [go_sem, argR, c1, c2, c3]; rfl)) | (apply run_regionN (by decide); (simp (maxSteps := 9999999) only [go_sem, argR, c1, c2, c3]; rfl)) | (refine run_cond_t ?_ ?_; · simp only [go_sem]) | (refine run_cond_f ?_ ?_; · simp only [go_sem]))
        exact end_nil (q_ret1 _ (by simp (maxSteps := 9999999) only [go_sem]) rfl (take_app _ _))
    · rw [decide_eq_false (show ¬ Bd 30000 p from fun e => c2 e.2.1)]
      repeat (first | apply run_seq | apply run_block | apply end_seq | apply end_blk_hit | apply end_blk_miss rfl | apply end_blk | apply end_seq_exit | apply end_seq_ret | apply end_blk_ret | apply run_skip | apply run_ret | apply run_exit | (apply run_region (by decide); (simp (maxSteps := 9999999) only [go_sem, argR, c1, c2]; rfl)) | (apply run_regionN (by decide); (simp (maxSteps := 9999999) only [go_sem, argR, c1, c2]; rfl)) | (refine run_cond_t ?_ ?_; · simp only [go_sem]) | (refine run_cond_f ?_ ?_; · simp only [go_sem]))
      exact end_nil (q_ret1 _ (by simp (maxSteps := 9999999) only [go_sem]) rfl (take_app _ _))
  · rw [decide_eq_false (show ¬ Bd 30000 p from fun e => c1 e.1)]
    repeat (first | apply run_seq | apply run_block | apply end_seq | apply end_blk_hit | apply end_blk_miss rfl | apply end_blk | apply end_seq_exit | apply end_seq_ret | apply end_blk_ret | apply run_skip | apply run_ret | apply run_exit | (apply run_region (by decide); (simp (maxSteps := 9999999) only [go_sem, argR, c1]; rfl)) | (apply run_regionN (by decide); (simp (maxSteps := 9999999) only [go_sem, argR, c1]; rfl)) | (refine run_cond_t ?_ ?_; · simp only [go_sem]) | (refine run_cond_f ?_ ?_; · simp only [go_sem]))
    exact end_nil (q_ret1 _ (by simp (maxSteps := 9999999) only [go_sem]) rfl (take_app _ _))

theorem mulR35 {p q : Int × Int} {A C : Int} (hp : Bd A p) (hq : Bd C q) (hAC : A * C ≤ 2305843009213693952) (h : SHeap) :
    M.call 35 [.agg #[.int .i64 p.1, .int .i64 p.2], .agg #[.int .i64 q.1, .int .i64 q.2]] h = some (.agg #[.int .i64 (mulP p q).1, .int .i64 (mulP p q).2], h, []) := by
  obtain ⟨w1, w2, w3, w4, w5, w6⟩ := (mw_of hp hq hAC).1
  refine call_run sf35 rfl rfl rfl ?_
  unfold sf35
  repeat (first | apply run_seq | apply run_block | apply end_seq | apply end_blk_hit | apply end_blk_miss rfl | apply end_blk | apply end_seq_exit | apply end_seq_ret | apply end_blk_ret | apply run_skip | apply run_ret | apply run_exit | (apply run_region (by decide); (simp (maxSteps := 9999999) only [go_sem, argR, w1, w2, w3, w4, w5, w6]; rfl)) | (apply run_regionN (by decide); (simp (maxSteps := 9999999) only [go_sem, argR, w1, w2, w3, w4, w5, w6]; rfl)) | (refine run_cond_t ?_ ?_; · simp only [go_sem]) | (refine run_cond_f ?_ ?_; · simp only [go_sem]))
  exact end_nil (q_cell [.int .i64 (mulP p q).1, .int .i64 (mulP p q).2] (by simp (maxSteps := 9999999) only [go_sem]) rfl ⟨_, by simp (maxSteps := 9999999) only [go_sem]; rfl⟩ (take_app _ _))

theorem subR55 {p q : Int × Int} {A C : Int} (hp : Bd A p) (hq : Bd C q) (hAC : A + C ≤ 4611686018427387904) (h : SHeap) :
    M.call 55 [.agg #[.int .i64 p.1, .int .i64 p.2], .agg #[.int .i64 q.1, .int .i64 q.2]] h = some (.agg #[.int .i64 (subP p q).1, .int .i64 (subP p q).2], h, []) := by
  obtain ⟨p1, p2, p3, p4⟩ := hp
  obtain ⟨q1, q2, q3, q4⟩ := hq
  have w1 : IntKind.i64.wrap (p.1 - q.1) = (subP p q).1 := wrap64 (by omega) (by omega)
  have w2 : IntKind.i64.wrap (p.2 - q.2) = (subP p q).2 := wrap64 (by omega) (by omega)
  refine call_run sf55 rfl rfl rfl ?_
  unfold sf55
  repeat (first | apply run_seq | apply run_block | apply end_seq | apply end_blk_hit | apply end_blk_miss rfl | apply end_blk | apply end_seq_exit | apply end_seq_ret | apply end_blk_ret | apply run_skip | apply run_ret | apply run_exit | (apply run_region (by decide); (simp (maxSteps := 9999999) only [go_sem, argR, w1, w2]; rfl)) | (apply run_regionN (by decide); (simp (maxSteps := 9999999) only [go_sem, argR, w1, w2]; rfl)) | (refine run_cond_t ?_ ?_; · simp only [go_sem]) | (refine run_cond_f ?_ ?_; · simp only [go_sem]))
  exact end_nil (q_cell [.int .i64 (subP p q).1, .int .i64 (subP p q).2] (by simp (maxSteps := 9999999) only [go_sem]) rfl ⟨_, by simp (maxSteps := 9999999) only [go_sem]; rfl⟩ (take_app _ _))
/-- the document's way to round down -/
theorem floorR_eq {a b : Int} (hb : 0 < b) : (a < a.tdiv b * b → a.tdiv b - 1 = a / b) ∧ (¬ a < a.tdiv b * b → a.tdiv b = a / b) := by
  have h1 := Int.mul_tdiv_add_tmod a b
  have e0 : a.tdiv b * b = b * a.tdiv b := Int.mul_comm _ _
  obtain ⟨f1, f2⟩ := floor_eq (a := a) hb
  exact ⟨fun h => f1 (by omega), fun h => f2 (by omega)⟩
theorem floorR74 {a b A : Int} (hb : 0 < b) (hb2 : b ≤ A) (h1 : -A ≤ a) (h2 : a ≤ A) (hA : A ≤ 2305843009213693952) (h : SHeap) :
    M.call 74 [.int .i64 a, .int .i64 b] h = some (.int .i64 (a / b), h, []) := by
  obtain ⟨f1, f2⟩ := floorR_eq (a := a) hb
  obtain ⟨b1, b2⟩ := ediv_bd hb h1 h2
  have hb0 : ¬ b = 0 := by omega
  have k1 := Int.mul_tdiv_add_tmod a b
  have k2 := Int.tmod_lt_of_pos a hb
  have k3 := Int.lt_tmod_of_pos a hb
  have e0 : a.tdiv b * b = b * a.tdiv b := Int.mul_comm _ _
  have w0 : IntKind.i64.wrap (a.tdiv b * b) = a.tdiv b * b := wrap64 (by omega) (by omega)
  refine call_run sf74 rfl rfl rfl ?_
  unfold sf74
  by_cases c : a < a.tdiv b * b
  · have e := f1 c
    have w1 : IntKind.i64.wrap (a.tdiv b) = a.tdiv b := wrap64 (by omega) (by omega)
    have w2 : IntKind.i64.wrap (a.tdiv b - 1) = a / b := by rw [wrap64 (by omega) (by omega), e]
    repeat (first | apply run_seq | apply run_block | apply end_seq | apply end_blk_hit | apply end_blk_miss rfl | apply end_blk | apply end_seq_exit | apply end_seq_ret | apply end_blk_ret | apply run_skip | apply run_ret | apply run_exit | (apply run_region (by decide); (simp (maxSteps := 9999999) only [go_sem, argR, hb0, w0, c, w1, w2]; rfl)) | (apply run_regionN (by decide); (simp (maxSteps := 9999999) only [go_sem, argR, hb0, w0, c, w1, w2]; rfl)) | (refine run_cond_t ?_ ?_; · simp only [go_sem]) | (refine run_cond_f ?_ ?_; · simp only [go_sem]))
    exact end_nil (q_ret1 _ (by simp (maxSteps := 9999999) only [go_sem]) rfl (take_self _))
  · have e := f2 c
    have w1 : IntKind.i64.wrap (a.tdiv b) = a.tdiv b := wrap64 (by omega) (by omega)
    repeat (first | apply run_seq | apply run_block | apply end_seq | apply end_blk_hit | apply end_blk_miss rfl | apply end_blk | apply end_seq_exit | apply end_seq_ret | apply end_blk_ret | apply run_skip | apply run_ret | apply run_exit | (apply run_region (by decide); (simp (maxSteps := 9999999) only [go_sem, argR, hb0, w0, c, w1]; rfl)) | (apply run_regionN (by decide); (simp (maxSteps := 9999999) only [go_sem, argR, hb0, w0, c, w1]; rfl)) | (refine run_cond_t ?_ ?_; · simp only [go_sem]) | (refine run_cond_f ?_ ?_; · simp only [go_sem]))
    exact end_nil (q_ret1 _ (by simp (maxSteps := 9999999) only [go_sem, e]) rfl (take_self _))

theorem quoR44 {x y : Int × Int} {X Y : Int} (hx : Bd X x) (hy : Bd Y y) (hXY : X * Y ≤ 1125899906842624) (hX : X ≤ 1125899906842624) (hY : Y * Y ≤ 1125899906842624) (h0 : y ≠ (0, 0)) (h : SHeap) :
    M.call 44 [.agg #[.int .i64 x.1, .int .i64 x.2], .agg #[.int .i64 y.1, .int .i64 y.2]] h = some (.tuple #[.agg #[.int .i64 (quoP x y).1, .int .i64 (quoP x y).2], .agg #[.int .i64 (restP x y).1, .int .i64 (restP x y).2]], h, []) := by
  have hn := nrm_pos h0
  have hY0 : 0 ≤ Y := by obtain ⟨a, b, _⟩ := hy; omega
  have hX0 : 0 ≤ X := by obtain ⟨a, b, _⟩ := hx; omega
  have hc : Bd Y (conjP y) := by unfold Bd conjP at *; dsimp only; omega
  have hYY : Y ≤ 1125899906842624 := by
    by_cases e : Y ≤ 1
    · omega
    · have := Int.mul_le_mul_of_nonneg_left (show (1 : Int) ≤ Y by omega) hY0
      omega
  have w0 : IntKind.i64.wrap (-y.2) = -y.2 := by obtain ⟨a, b, c, d⟩ := hy; exact wrap64 (by omega) (by omega)
  have t65 := fun h => mulR35 hx hc (by omega) h
  have tb := mulP_bd hx hc
  have t59 := fun h => normR27 hy (by omega) h
  have nb := nrm_le hy
  have hq := quo_bd hx hn
  obtain ⟨b1, b2, b3, b4⟩ := tb
  have ec : conjP y = (y.1, -y.2) := rfl
  have w1 : IntKind.i64.wrap (2 * (mulP x (conjP y)).1) = 2 * (mulP x (conjP y)).1 := wrap64 (by omega) (by omega)
  have w2 : IntKind.i64.wrap (2 * (mulP x (conjP y)).2) = 2 * (mulP x (conjP y)).2 := wrap64 (by omega) (by omega)
  have w3 : IntKind.i64.wrap (2 * (mulP x (conjP y)).1 + nrm y) = 2 * (mulP x (conjP y)).1 + nrm y := wrap64 (by omega) (by omega)
  have w4 : IntKind.i64.wrap (2 * (mulP x (conjP y)).2 + nrm y) = 2 * (mulP x (conjP y)).2 + nrm y := wrap64 (by omega) (by omega)
  have w5 : IntKind.i64.wrap (2 * nrm y) = 2 * nrm y := wrap64 (by omega) (by omega)
  have f1 := fun h => floorR74 (a := 2 * (mulP x (conjP y)).1 + nrm y) (b := 2 * nrm y) (A := 2305843009213693952) (by omega) (by omega) (by omega) (by omega) (by omega) h
  have f2 := fun h => floorR74 (a := 2 * (mulP x (conjP y)).2 + nrm y) (b := 2 * nrm y) (A := 2305843009213693952) (by omega) (by omega) (by omega) (by omega) (by omega) h
  have e1 : (2 * (mulP x (conjP y)).1 + nrm y) / (2 * nrm y) = (quoP x y).1 := rfl
  have e2 : (2 * (mulP x (conjP y)).2 + nrm y) / (2 * nrm y) = (quoP x y).2 := rfl
  rw [e1] at f1
  rw [e2] at f2
  have t65' := fun h => mulR35 hq hy (by omega) h
  have t79 := fun h => subR55 hx (mulP_bd hq hy) (by omega) h
  have e3 : subP x (mulP (quoP x y) y) = restP x y := rfl
  rw [e3] at t79
  have t65c : ∀ h, M.call 35 [.agg #[.int .i64 x.1, .int .i64 x.2], .agg #[.int .i64 y.1, .int .i64 (-y.2)]] h = some (.agg #[.int .i64 (mulP x (conjP y)).1, .int .i64 (mulP x (conjP y)).2], h, []) := t65
  refine call_run sf44 rfl rfl rfl ?_
  unfold sf44
  repeat (first | apply run_seq | apply run_block | apply end_seq | apply end_blk_hit | apply end_blk_miss rfl | apply end_blk | apply end_seq_exit | apply end_seq_ret | apply end_blk_ret | apply run_skip | apply run_ret | apply run_exit | (apply run_region (by decide); (simp (maxSteps := 9999999) only [go_sem, argR, w0, t65c, t59, w1, w2, w3, w4, w5, f1, f2, t65', t79]; rfl)) | (apply run_regionN (by decide); (simp (maxSteps := 9999999) only [go_sem, argR, w0, t65c, t59, w1, w2, w3, w4, w5, f1, f2, t65', t79]; rfl)) | (refine run_cond_t ?_ ?_; · simp only [go_sem]) | (refine run_cond_f ?_ ?_; · simp only [go_sem]))
  exact end_nil (q_cell2 [.int .i64 (quoP x y).1, .int .i64 (quoP x y).2] [.int .i64 (restP x y).1, .int .i64 (restP x y).2] (by simp (maxSteps := 9999999) only [go_sem]) (by simp (maxSteps := 9999999) only [go_sem]) rfl rfl ⟨_, by simp (maxSteps := 9999999) only [go_sem]; rfl⟩ ⟨_, by simp (maxSteps := 9999999) only [go_sem]; rfl⟩ (take_app _ _))
end Go.Proofs.YtdmfhdnpakgkpaaDoor.Sh

