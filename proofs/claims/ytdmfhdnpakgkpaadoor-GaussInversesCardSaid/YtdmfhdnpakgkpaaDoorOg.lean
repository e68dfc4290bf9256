/- GaussInverses: the law. -/
import Derived.Test.YtdmfhdnpakgkpaaDoorOf
set_option linter.all false
namespace Go.Proofs.YtdmfhdnpakgkpaaDoor.Sh
open Go
set_option maxRecDepth 100000
set_option maxHeartbeats 4000000

theorem eqOne (p : Int × Int) : eqS (.agg [.int, .int]) (.agg #[.int .i64 p.1, .int .i64 p.2]) (.agg #[.int .i64 1, .int .i64 0]) = some (decide (p = (1, 0))) := eqP p (1, 0)
attribute [go_sem ↓ high] eqOne
theorem gcd_one {a b : Int × Int} (h : b ≠ (0, 0)) : gcdP a b = (1, 0) ↔ nrm (gcdP a b) = 1 := by
  constructor
  · intro e; rw [e]; decide
  · intro e
    have hr : eu a b ≠ (0, 0) := by
      intro z
      have : gcdP a b = (0, 0) := by unfold gcdP; rw [z]; decide
      rw [this] at e
      exact absurd e (by decide)
    have hf := fir_isF hr
    have e' : nrm (firP (eu a b)).1 = 1 := e
    have hg : gcdP a b = (firP (eu a b)).1 := rfl
    rw [hg]
    generalize (firP (eu a b)).1 = p at *
    obtain ⟨h1, h2⟩ := hf
    have s1 := abs_sq p.1
    have s2 := abs_sq p.2
    have s3 := Int.mul_le_mul (show (1 : Int) ≤ p.1 by omega) (show (1 : Int) ≤ p.1 by omega) (by omega) (by omega)
    unfold nrm at e'
    have p2 : p.2 = 0 := by omega
    have p1 : p.1 = 1 := by omega
    exact Prod.ext p1 p2

/-- Inverse -/
theorem inverse53_0 {x : Int × Int} (hx : Bd 30000 x) (h : SHeap) : M.call 53 [agV x, agV (0, 0)] h = some (.tuple #[agV (0, 0), .int .i64 1], h, []) := by
  obtain ⟨F, hF⟩ := bezoutAt hx (show Bd 30000 ((0 : Int), (0 : Int)) by decide)
  have c48 := fun h => (hF h).2
  refine call_run sf53 rfl rfl rfl ?_
  unfold sf53
  repeat (first | apply run_seq | apply run_block | apply end_seq | apply end_blk_hit | apply end_blk_miss rfl | apply end_blk | apply end_seq_exit | apply end_seq_ret | apply end_blk_ret | apply run_skip | apply run_ret | apply run_exit | (apply run_region (by decide); (simp (maxSteps := 9999999) only [go_sem, argR, c48]; rfl)) | (apply run_regionN (by decide); (simp (maxSteps := 9999999) only [go_sem, argR, c48]; rfl)) | (refine run_cond_t ?_ ?_; · simp only [go_sem]) | (refine run_cond_f ?_ ?_; · simp only [go_sem]))
  exact end_nil (q_free [agV (0, 0), .int .i64 1] (by simp (maxSteps := 9999999) only [go_sem]) rfl rfl rfl (fun _ => rfl) (take_app _ _) rfl)
theorem inverse53_none {x y : Int × Int} (hx : Bd 30000 x) (hy : Bd 30000 y) (h0 : y ≠ (0, 0)) (hg : gcdP x y ≠ (1, 0)) (h : SHeap) : M.call 53 [agV x, agV y] h = some (.tuple #[agV (0, 0), .int .i64 4], h, []) := by
  obtain ⟨F, hF⟩ := bezoutAt hx hy
  have c48 := fun h => (hF h).2
  have z' : (y = (0, 0)) = False := eq_false h0
  have g' : (gcdP x y = (1, 0)) = False := eq_false hg
  refine call_run sf53 rfl rfl rfl ?_
  unfold sf53
  repeat (first | apply run_seq | apply run_block | apply end_seq | apply end_blk_hit | apply end_blk_miss rfl | apply end_blk | apply end_seq_exit | apply end_seq_ret | apply end_blk_ret | apply run_skip | apply run_ret | apply run_exit | (apply run_region (by decide); (simp (maxSteps := 9999999) only [go_sem, argR, c48, z', g']; rfl)) | (apply run_regionN (by decide); (simp (maxSteps := 9999999) only [go_sem, argR, c48, z', g']; rfl)) | (refine run_cond_t ?_ ?_; · simp only [go_sem]) | (refine run_cond_f ?_ ?_; · simp only [go_sem]))
  exact end_nil (q_free [agV (0, 0), .int .i64 4] (by simp (maxSteps := 9999999) only [go_sem]) rfl rfl rfl (fun _ => rfl) (take_app _ _) rfl)
theorem inverse53 {x y : Int × Int} (hx : Bd 30000 x) (hy : Bd 30000 y) (h0 : y ≠ (0, 0)) (hg : gcdP x y = (1, 0)) (h : SHeap) : ∃ u v, BR x y u v ∧ M.call 53 [agV x, agV y] h = some (.tuple #[agV (restP u y), .int .i64 0], h, []) := by
  obtain ⟨u, v, hB, c48⟩ := bezout hx hy (h ++ [bx x, bx y, bz])
  refine ⟨u, v, hB, ?_⟩
  have z' : (y = (0, 0)) = False := eq_false h0
  have c60 := fun h => quo60 hB.bu hy (by decide) (by decide) (by decide) h0 h
  rw [hg] at c48
  refine call_run sf53 rfl rfl rfl ?_
  unfold sf53
  repeat (first | apply run_seq | apply run_block | apply end_seq | apply end_blk_hit | apply end_blk_miss rfl | apply end_blk | apply end_seq_exit | apply end_seq_ret | apply end_blk_ret | apply run_skip | apply run_ret | apply run_exit | (apply run_region (by decide); (simp (maxSteps := 9999999) only [go_sem, argR, c48, z', c60]; rfl)) | (apply run_regionN (by decide); (simp (maxSteps := 9999999) only [go_sem, argR, c48, z', c60]; rfl)) | (refine run_cond_t ?_ ?_; · simp only [go_sem]) | (refine run_cond_f ?_ ?_; · simp only [go_sem]))
  exact end_nil (q_free [agV (restP u y), .int .i64 0] (by simp (maxSteps := 9999999) only [go_sem]) rfl rfl rfl (fun _ => rfl) (take_app _ _) rfl)
/-- the inverse leaves 1 -/
theorem inv_dv {x y u v : Int × Int} (h0 : y ≠ (0, 0)) (hB : BR x y u v) (hg : gcdP x y = (1, 0)) : dv y (subP (mulP (restP x y) (restP u y)) (1, 0)) := by
  have m := hB.made
  rw [hg] at m
  have q1 := quo_rest x y
  have q2 := quo_rest u y
  generalize quoP x y = k at *
  generalize quoP u y = l at *
  generalize restP x y = r at *
  generalize restP u y = s at *
  refine ⟨subP (mulP (-1, 0) v) (addP (addP (mulP l x) (mulP k s)) (0, 0)), ?_⟩
  rw [← m]
  rw [q2]
  rw [q1]
  unfold subP addP mulP; refine Prod.ext ?_ ?_ <;> dsimp only <;> grind
theorem inverseR54 {x z y : Int × Int} (hx : Bd 30000 x) (hz : Bd 30000 z) (hy : Bd 30000 y) (h0 : y ≠ (0, 0)) (hi : restP z y = z) (h : SHeap) : M.call 54 [agV x, agV z, agV y] h = some (.bool (divP y (subP (mulP (restP x y) z) (1, 0))), h, []) := by
  have hn := nrm_pos h0
  have c56z := fun h => rest56 hz hy (by decide) (by decide) (by decide) h0 h
  rw [hi] at c56z
  have c56x := fun h => rest56 hx hy (by decide) (by decide) (by decide) h0 h
  have br := rest_bd (x := x) hn hy
  have c35 := fun h => mulR35 br hz (by decide) h
  have bm := mulP_bd br hz
  have c55 := fun h => subR55 bm (show Bd 1 ((1 : Int), (0 : Int)) by decide) (by decide) h
  have bs : Bd 2000000000 (subP (mulP (restP x y) z) (1, 0)) := by
    unfold Bd subP at *; dsimp only at *; omega
  have c50 := fun h => dividesR50 hy bs (by decide) (by decide) (by decide) h
  have zz : (z = z) = True := eq_true rfl
  refine call_run sf54 rfl rfl rfl ?_
  unfold sf54
  repeat (first | apply run_seq | apply run_block | apply end_seq | apply end_blk_hit | apply end_blk_miss rfl | apply end_blk | apply end_seq_exit | apply end_seq_ret | apply end_blk_ret | apply run_skip | apply run_ret | apply run_exit | (apply run_region (by decide); (simp (maxSteps := 9999999) only [go_sem, argR, c56z, c56x, c35, c55, c50, zz]; rfl)) | (apply run_regionN (by decide); (simp (maxSteps := 9999999) only [go_sem, argR, c56z, c56x, c35, c55, c50, zz]; rfl)) | (refine run_cond_t ?_ ?_; · simp only [go_sem]) | (refine run_cond_f ?_ ?_; · simp only [go_sem]))
  exact end_nil (q_ret1 _ (by simp (maxSteps := 9999999) only [go_sem]) rfl (take_app _ _))

/-- GaussInverses on the shadow machine -/
theorem law14 (x y : Int × Int) (z : Int) (h : SHeap) : M.call 14 [agV x, agV y, .int .i64 z] h = some (.bool true, h, []) := by
  obtain ⟨q1, q2⟩ := u64_mod' z 30000 (by decide)
  generalize hq : (IntKind.u64.wrap z).tmod 30000 = q at *
  have w1 : IntKind.i64.wrap q = q := wrap64 (by omega) (by omega)
  have w2 : IntKind.i64.wrap (1 + q) = 1 + q := wrap64 (by omega) (by omega)
  have tx := fun h => tame29 x (m := 30000) (by decide) (by decide) h
  have ty := fun h => tame29 y (m := 1 + q) (by omega) (by omega) h
  have bX := tame_bd x (m := 30000) (by decide)
  have bY := (tame_bd y (m := 1 + q) (by omega)).mono (show 1 + q ≤ 30000 by omega)
  generalize tameP x 30000 = u at *
  generalize tameP y (1 + q) = v at *
  have c49 := fun h => gcdR49 bX bY h
  have bg : Bd 30000 (gcdP u v) := fir_bd (eu_bd bX bY)
  have c27 := fun h => normR27 bg (by decide) h
  refine call_run sf14 rfl rfl rfl ?_
  unfold sf14
  by_cases hv : v = (0, 0)
  · subst hv
    have c53 := fun h => inverse53_0 bX h
    repeat (first | apply run_seq | apply run_block | apply end_seq | apply end_blk_hit | apply end_blk_miss rfl | apply end_blk | apply end_seq_exit | apply end_seq_ret | apply end_blk_ret | apply run_skip | apply run_ret | apply run_exit | (apply run_region (by decide); (simp (maxSteps := 9999999) only [go_sem, argR, hq, w1, w2, tx, ty, c53, awake_call]; rfl)) | (apply run_regionN (by decide); (simp (maxSteps := 9999999) only [go_sem, argR, hq, w1, w2, tx, ty, c53, awake_call]; rfl)) | (refine run_cond_t ?_ ?_; · simp only [go_sem]) | (refine run_cond_f ?_ ?_; · simp only [go_sem]))
    exact end_nil (q_ret1 _ (by simp (maxSteps := 9999999) only [go_sem]) rfl (take_app _ _))
  · have hv' : (v = (0, 0)) = False := eq_false hv
    by_cases hg : gcdP u v = (1, 0)
    · have n1 : (nrm (gcdP u v) = 1) = True := eq_true ((gcd_one hv).1 hg)
      obtain ⟨a, b, hB, c53⟩ := inverse53 bX bY hv hg (h ++ [bx u, bx v])
      have br := rest_bd (x := a) (nrm_pos hv) bY
      have c26 := fun h => validR26 (restP a v) h
      rw [decide_eq_true br] at c26
      have c54 := fun h => inverseR54 bX br bY hv (rest_rest a hv) h
      have hd : divP v (subP (mulP (restP u v) (restP a v)) (1, 0)) = true := by
        unfold divP
        rw [if_neg hv, decide_eq_true_iff]
        exact rest_exact hv (inv_dv hv hB hg)
      rw [hd] at c54
      repeat (first | apply run_seq | apply run_block | apply end_seq | apply end_blk_hit | apply end_blk_miss rfl | apply end_blk | apply end_seq_exit | apply end_seq_ret | apply end_blk_ret | apply run_skip | apply run_ret | apply run_exit | (apply run_region (by decide); (simp (maxSteps := 9999999) only [go_sem, argR, hq, w1, w2, tx, ty, c53, hv', c49, c27, n1, c26, c54, awake_call]; rfl)) | (apply run_regionN (by decide); (simp (maxSteps := 9999999) only [go_sem, argR, hq, w1, w2, tx, ty, c53, hv', c49, c27, n1, c26, c54, awake_call]; rfl)) | (refine run_cond_t ?_ ?_; · simp only [go_sem]) | (refine run_cond_f ?_ ?_; · simp only [go_sem]))
      exact end_nil (q_ret1 _ (by simp (maxSteps := 9999999) only [go_sem]) rfl (take_app _ _))
    · have n1 : (nrm (gcdP u v) = 1) = False := eq_false (fun e => hg ((gcd_one hv).2 e))
      have c53 := fun h => inverse53_none bX bY hv hg h
      repeat (first | apply run_seq | apply run_block | apply end_seq | apply end_blk_hit | apply end_blk_miss rfl | apply end_blk | apply end_seq_exit | apply end_seq_ret | apply end_blk_ret | apply run_skip | apply run_ret | apply run_exit | (apply run_region (by decide); (simp (maxSteps := 9999999) only [go_sem, argR, hq, w1, w2, tx, ty, c53, hv', c49, c27, n1, awake_call]; rfl)) | (apply run_regionN (by decide); (simp (maxSteps := 9999999) only [go_sem, argR, hq, w1, w2, tx, ty, c53, hv', c49, c27, n1, awake_call]; rfl)) | (refine run_cond_t ?_ ?_; · simp only [go_sem]) | (refine run_cond_f ?_ ?_; · simp only [go_sem]))
      exact end_nil (q_ret1 _ (by simp (maxSteps := 9999999) only [go_sem]) rfl (take_app _ _))
end Go.Proofs.YtdmfhdnpakgkpaaDoor.Sh

