/- GaussPowers: the law. -/
import Derived.Test.YtdmfhdnpakgkpaaDoorNt
set_option linter.all false
namespace Go.Proofs.YtdmfhdnpakgkpaaDoor.Sh
open Go
set_option maxRecDepth 100000
set_option maxHeartbeats 4000000

theorem powlaw_loop (cx : Cx) (H : SHeap) {x : Int × Int} (hx : Bd 30000 x) : ∀ k ρ ms h' d', (∃ (r : Nat) (z : Int) (y : Int × Int) (g : SHeap), r + k = 2 ∧ Bd 30000 y ∧ ρ 1 = .int .i64 z ∧ ρ 3 = .pointer (some ⟨H.length, 0, none⟩) ∧ ρ 5 = .pointer (some ⟨H.length + 1, 0, none⟩) ∧ ρ 7 = .int .i64 r ∧ ms = [] ∧ h' = H ++ ([bx x, bx y] ++ g) ∧ d' = []) →
    LoopW M cx 6 sf8L0 ρ ms h' d' (fun ex ρ' ms' h' d' => ex = .exit 0 ∧ ms' = [] ∧ (∃ g, h' = H ++ g) ∧ d' = []) := by
  refine loop_run _ ?_
  rintro k ρ ms h' d' ⟨r, z, y, g, hr, hy, r1, r3, r5, r7, rfl, rfl, rfl⟩
  unfold sf8L0
  by_cases hk : k = 0
  · have e1 : ¬ ((r : Int) < 2) := by omega
    repeat (first | apply run_seq | apply run_block | apply end_seq | apply end_blk_hit | apply end_blk_miss rfl | apply end_blk | apply end_seq_exit | apply end_seq_ret | apply end_blk_ret | apply run_skip | apply run_ret | apply run_exit | (apply run_region (by decide); (simp (maxSteps := 9999999) only [go_sem, r7, e1]; rfl)) | (apply run_regionN (by decide); (simp (maxSteps := 9999999) only [go_sem, r7, e1]; rfl)) | (refine run_cond_t ?_ ?_; · simp only [go_sem]) | (refine run_cond_f ?_ ?_; · simp only [go_sem]))
    exact end_nil ⟨rfl, rfl, ⟨_, rfl⟩, rfl⟩
  · have e1 : (r : Int) < 2 := by omega
    have ew : IntKind.i64.wrap ((r : Int) + 1) = ((r + 1 : Nat) : Int) := by rw [wrap64 (by omega) (by omega)]; rfl
    obtain ⟨q1, q2⟩ := u64_mod' z 1000000001 (by decide)
    generalize hq : (IntKind.u64.wrap z).tmod 1000000001 = q at *
    have w1 : IntKind.i64.wrap q = q := wrap64 (by omega) (by omega)
    have c30 := fun h => some30 y (m := 40) (by decide) (by decide) h
    have bs := (some_bd y (m := 40) (by decide)).mono (show (40 : Int) ≤ 30000 by decide)
    by_cases hc : y = (0, 0) ∨ z < 0 ∨ 1000000000 < z
    · have c40 := fun h => power40_arg hx hy hc h
      by_cases c1 : y = (0, 0)
      · have c1' : (y = (0, 0)) = True := eq_true c1
        repeat (first | apply run_seq | apply run_block | apply end_seq | apply end_blk_hit | apply end_blk_miss rfl | apply end_blk | apply end_seq_exit | apply end_seq_ret | apply end_blk_ret | apply run_skip | apply run_ret | apply run_exit | (apply run_region (by decide); (simp (maxSteps := 9999999) only [go_sem, r1, r3, r5, r7, e1, c40, c1', hq, w1, c30, ew]; rfl)) | (apply run_regionN (by decide); (simp (maxSteps := 9999999) only [go_sem, r1, r3, r5, r7, e1, c40, c1', hq, w1, c30, ew]; rfl)) | (refine run_cond_t ?_ ?_; · simp only [go_sem]) | (refine run_cond_f ?_ ?_; · simp only [go_sem]))
        refine end_nil ⟨k - 1, by omega, r + 1, q, someP y 40, g ++ [bz], by omega, bs, ?_, ?_, ?_, ?_, rfl, ?_, rfl⟩
        · simp (maxSteps := 9999999) only [go_sem]
        · simp (maxSteps := 9999999) only [go_sem, r3]
        · simp (maxSteps := 9999999) only [go_sem, r5]
        · simp (maxSteps := 9999999) only [go_sem, ew]
        · simp
      · have c1' : (y = (0, 0)) = False := eq_false c1
        by_cases c2 : z < 0
        · repeat (first | apply run_seq | apply run_block | apply end_seq | apply end_blk_hit | apply end_blk_miss rfl | apply end_blk | apply end_seq_exit | apply end_seq_ret | apply end_blk_ret | apply run_skip | apply run_ret | apply run_exit | (apply run_region (by decide); (simp (maxSteps := 9999999) only [go_sem, r1, r3, r5, r7, e1, c40, c1', c2, hq, w1, c30, ew]; rfl)) | (apply run_regionN (by decide); (simp (maxSteps := 9999999) only [go_sem, r1, r3, r5, r7, e1, c40, c1', c2, hq, w1, c30, ew]; rfl)) | (refine run_cond_t ?_ ?_; · simp only [go_sem]) | (refine run_cond_f ?_ ?_; · simp only [go_sem]))
          refine end_nil ⟨k - 1, by omega, r + 1, q, someP y 40, g ++ [bz], by omega, bs, ?_, ?_, ?_, ?_, rfl, ?_, rfl⟩
          · simp (maxSteps := 9999999) only [go_sem]
          · simp (maxSteps := 9999999) only [go_sem, r3]
          · simp (maxSteps := 9999999) only [go_sem, r5]
          · simp (maxSteps := 9999999) only [go_sem, ew]
          · simp
        · have c3 : 1000000000 < z := by
            rcases hc with k | k | k
            · exact (c1 k).elim
            · omega
            · exact k
          repeat (first | apply run_seq | apply run_block | apply end_seq | apply end_blk_hit | apply end_blk_miss rfl | apply end_blk | apply end_seq_exit | apply end_seq_ret | apply end_blk_ret | apply run_skip | apply run_ret | apply run_exit | (apply run_region (by decide); (simp (maxSteps := 9999999) only [go_sem, r1, r3, r5, r7, e1, c40, c1', c2, c3, hq, w1, c30, ew]; rfl)) | (apply run_regionN (by decide); (simp (maxSteps := 9999999) only [go_sem, r1, r3, r5, r7, e1, c40, c1', c2, c3, hq, w1, c30, ew]; rfl)) | (refine run_cond_t ?_ ?_; · simp only [go_sem]) | (refine run_cond_f ?_ ?_; · simp only [go_sem]))
          refine end_nil ⟨k - 1, by omega, r + 1, q, someP y 40, g ++ [bz], by omega, bs, ?_, ?_, ?_, ?_, rfl, ?_, rfl⟩
          · simp (maxSteps := 9999999) only [go_sem]
          · simp (maxSteps := 9999999) only [go_sem, r3]
          · simp (maxSteps := 9999999) only [go_sem, r5]
          · simp (maxSteps := 9999999) only [go_sem, ew]
          · simp
    · have c1 : y ≠ (0, 0) := fun e => hc (.inl e)
      have c1' : (y = (0, 0)) = False := eq_false c1
      have c2 : ¬ z < 0 := fun e => hc (.inr (.inl e))
      have c3 : ¬ 1000000000 < z := fun e => hc (.inr (.inr e))
      obtain ⟨n, rfl⟩ : ∃ n : Nat, z = n := ⟨z.toNat, by omega⟩
      have c40 := fun h => power40 (n := n) hx hy c1 (by omega) h
      have c41 := fun h => powerR41 (n := n) hx hy c1 (by omega) h
      repeat (first | apply run_seq | apply run_block | apply end_seq | apply end_blk_hit | apply end_blk_miss rfl | apply end_blk | apply end_seq_exit | apply end_seq_ret | apply end_blk_ret | apply run_skip | apply run_ret | apply run_exit | (apply run_region (by decide); (simp (maxSteps := 9999999) only [go_sem, r1, r3, r5, r7, e1, c40, c41, c1', c2, c3, hq, w1, c30, ew]; rfl)) | (apply run_regionN (by decide); (simp (maxSteps := 9999999) only [go_sem, r1, r3, r5, r7, e1, c40, c41, c1', c2, c3, hq, w1, c30, ew]; rfl)) | (refine run_cond_t ?_ ?_; · simp only [go_sem]) | (refine run_cond_f ?_ ?_; · simp only [go_sem]))
      refine end_nil ⟨k - 1, by omega, r + 1, q, someP y 40, g ++ [bx (powP x n y)], by omega, bs, ?_, ?_, ?_, ?_, rfl, ?_, rfl⟩
      · simp (maxSteps := 9999999) only [go_sem]
      · simp (maxSteps := 9999999) only [go_sem, r3]
      · simp (maxSteps := 9999999) only [go_sem, r5]
      · simp (maxSteps := 9999999) only [go_sem, ew]
      · simp
/-- GaussPowers on the shadow machine -/
theorem law8 (x : Int × Int) (z : Int) (y : Int × Int) (h : SHeap) : M.call 8 [agV x, .int .i64 z, agV y] h = some (.bool true, h, []) := by
  have tx := fun h => tame29 x (m := 30000) (by decide) (by decide) h
  have ty := fun h => tame29 y (m := 30000) (by decide) (by decide) h
  have bX := tame_bd x (m := 30000) (by decide)
  have bY := tame_bd y (m := 30000) (by decide)
  generalize tameP x 30000 = u at *
  generalize tameP y 30000 = v at *
  refine call_run sf8 rfl rfl rfl ?_
  unfold sf8
  repeat (first | apply run_seq | apply run_block | apply end_seq | apply end_blk_hit | apply end_blk_miss rfl | apply end_blk | apply end_seq_exit | apply end_seq_ret | apply end_blk_ret | apply run_skip | apply run_ret | apply run_exit | (apply run_region (by decide); (simp (maxSteps := 9999999) only [go_sem, argR, tx, ty]; rfl)) | (apply run_regionN (by decide); (simp (maxSteps := 9999999) only [go_sem, argR, tx, ty]; rfl)) | (refine run_cond_t ?_ ?_; · simp only [go_sem]) | (refine run_cond_f ?_ ?_; · simp only [go_sem]))
  refine run_loop (powlaw_loop _ h bX 2 _ _ _ _ ⟨0, z, v, [], rfl, bY, ?_, ?_, ?_, ?_, rfl, by simp, rfl⟩) ?_
  · simp (maxSteps := 9999999) only [go_sem, argR]
  · simp (maxSteps := 9999999) only [go_sem]
  · simp (maxSteps := 9999999) only [go_sem]
  · (simp (maxSteps := 9999999) only [go_sem]) <;> rfl
  rintro ex ρ' ms' h1 d1 ⟨rfl, rfl, ⟨g, rfl⟩, rfl⟩
  repeat (first | apply run_seq | apply run_block | apply end_seq | apply end_blk_hit | apply end_blk_miss rfl | apply end_blk | apply end_seq_exit | apply end_seq_ret | apply end_blk_ret | apply run_skip | apply run_ret | apply run_exit | (apply run_region (by decide); (simp (maxSteps := 9999999) only [go_sem, awake_call]; rfl)) | (apply run_regionN (by decide); (simp (maxSteps := 9999999) only [go_sem, awake_call]; rfl)) | (refine run_cond_t ?_ ?_; · simp only [go_sem]) | (refine run_cond_f ?_ ?_; · simp only [go_sem]))
  exact end_nil (q_ret1 _ (by simp (maxSteps := 9999999) only [go_sem]) rfl (take_app _ _))
end Go.Proofs.YtdmfhdnpakgkpaaDoor.Sh

