/- GaussSquares: the law, its rounds. -/
import Derived.Test.YtdmfhdnpakgkpaaDoorGl
set_option linter.all false
namespace Go.Proofs.YtdmfhdnpakgkpaaDoor.Sh
open Go
set_option maxRecDepth 100000

theorem sq17_ex {n : Nat} (hn : n ≤ 1000000) (h : SHeap) : ∃ u g, M.call 17 [.int .i64 n] h = some (.tuple #[u, .int .i64 0], h ++ g, []) ∧ PS (h ++ g) u (sqs n) := by
  obtain ⟨g, hg⟩ := resH_pre h (prs (sqs n)) (sqs n).length 34
  have hu := PS.ofRes h [] (sqs n) 34
  rw [List.append_nil, hg] at hu
  exact ⟨_, g, by rw [squares17 hn h, hg], hu⟩
theorem sq20_ex {n : Nat} (hn : n ≤ 1000000) (h : SHeap) : ∃ u g, M.call 20 [.int .i64 n] h = some (u, h ++ g, []) ∧ PS (h ++ g) u (sqs n) := by
  obtain ⟨g, hg⟩ := resH_pre h (prs (sqs n)) (sqs n).length 34
  have hu := PS.ofRes h [] (sqs n) 34
  rw [List.append_nil, hg] at hu
  exact ⟨_, g, by rw [squaresR20 hn h, hg], hu⟩

theorem sqlaw_loop (cx : Cx) (H : SHeap) : ∀ k ρ ms h' d', (∃ (r : Nat) (z : Int) (g : SHeap), r + k = 3 ∧ ρ 0 = .int .i64 z ∧ ρ 3 = .int .i64 r ∧ ms = [] ∧ h' = H ++ g ∧ d' = []) →
    LoopW M cx 7 sf3L0 ρ ms h' d' (fun ex ρ' ms' h' d' => ex = .exit 0 ∧ ms' = [] ∧ (∃ g, h' = H ++ g) ∧ d' = []) := by
  refine loop_run _ ?_
  rintro k ρ ms h' d' ⟨r, z, g, hr, r0, r3, rfl, rfl, rfl⟩
  unfold sf3L0
  by_cases hk : k = 0
  · have e1 : ¬ ((r : Int) < 3) := by omega
    repeat (first | apply run_seq | apply run_block | apply end_seq | apply end_blk_hit | apply end_blk_miss rfl | apply end_blk | apply end_seq_exit | apply end_seq_ret | apply end_blk_ret | apply run_skip | apply run_ret | apply run_exit | (apply run_region (by decide); (simp only [go_sem, r3, e1]; rfl)) | (refine run_cond_t ?_ ?_; · simp only [go_sem]) | (refine run_cond_f ?_ ?_; · simp only [go_sem]))
    exact end_nil ⟨rfl, rfl, ⟨g, rfl⟩, rfl⟩
  · have e1 : (r : Int) < 3 := by omega
    have ew : IntKind.i64.wrap ((r : Int) + 1) = ((r + 1 : Nat) : Int) := by rw [wrap64 (by omega) (by omega)]; rfl
    obtain ⟨q1, q2⟩ := u64_mod' z 1000001 (by decide)
    generalize hq : (IntKind.u64.wrap z).tmod 1000001 = q at *
    have w1 : IntKind.i64.wrap q = q := wrap64 (by omega) (by omega)
    by_cases b0 : z < 0 ∨ 1000000 < z
    · have c17 := fun h => squares17_no b0 h
      have c18 := fun h => count18_no b0 h
      have b1 : z < 0 ∨ ¬ z < 0 := by omega
      by_cases hr1 : r = 1
      · have i1 : ((r : Int) = 1) = True := eq_true (by omega)
        by_cases b1 : z < 0
        · repeat (first | apply run_seq | apply run_block | apply end_seq | apply end_blk_hit | apply end_blk_miss rfl | apply end_blk | apply end_seq_exit | apply end_seq_ret | apply end_blk_ret | apply run_skip | apply run_ret | apply run_exit | (apply run_region (by decide); (simp only [go_sem, r0, r3, e1, c17, c18, b1, hq, w1, i1, ew]; rfl)) | (refine run_cond_t ?_ ?_; · simp only [go_sem]) | (refine run_cond_f ?_ ?_; · simp only [go_sem]))
          refine end_nil ⟨k - 1, by omega, r + 1, _, g, by omega, by simp only [go_sem]; rfl, ?_, rfl, rfl, rfl⟩
          simp only [go_sem, ew]
        · have b2 : 1000000 < z := by omega
          repeat (first | apply run_seq | apply run_block | apply end_seq | apply end_blk_hit | apply end_blk_miss rfl | apply end_blk | apply end_seq_exit | apply end_seq_ret | apply end_blk_ret | apply run_skip | apply run_ret | apply run_exit | (apply run_region (by decide); (simp only [go_sem, r0, r3, e1, c17, c18, b1, b2, hq, w1, i1, ew]; rfl)) | (refine run_cond_t ?_ ?_; · simp only [go_sem]) | (refine run_cond_f ?_ ?_; · simp only [go_sem]))
          refine end_nil ⟨k - 1, by omega, r + 1, _, g, by omega, by simp only [go_sem]; rfl, ?_, rfl, rfl, rfl⟩
          simp only [go_sem, ew]
      · have i1 : ((r : Int) = 1) = False := eq_false (by omega)
        by_cases b1 : z < 0
        · repeat (first | apply run_seq | apply run_block | apply end_seq | apply end_blk_hit | apply end_blk_miss rfl | apply end_blk | apply end_seq_exit | apply end_seq_ret | apply end_blk_ret | apply run_skip | apply run_ret | apply run_exit | (apply run_region (by decide); (simp only [go_sem, r0, r3, e1, c17, c18, b1, hq, w1, i1, ew]; rfl)) | (refine run_cond_t ?_ ?_; · simp only [go_sem]) | (refine run_cond_f ?_ ?_; · simp only [go_sem]))
          refine end_nil ⟨k - 1, by omega, r + 1, q, g, by omega, by simp only [go_sem], ?_, rfl, rfl, rfl⟩
          simp only [go_sem, ew]
        · have b2 : 1000000 < z := by omega
          repeat (first | apply run_seq | apply run_block | apply end_seq | apply end_blk_hit | apply end_blk_miss rfl | apply end_blk | apply end_seq_exit | apply end_seq_ret | apply end_blk_ret | apply run_skip | apply run_ret | apply run_exit | (apply run_region (by decide); (simp only [go_sem, r0, r3, e1, c17, c18, b1, b2, hq, w1, i1, ew]; rfl)) | (refine run_cond_t ?_ ?_; · simp only [go_sem]) | (refine run_cond_f ?_ ?_; · simp only [go_sem]))
          refine end_nil ⟨k - 1, by omega, r + 1, q, g, by omega, by simp only [go_sem], ?_, rfl, rfl, rfl⟩
          simp only [go_sem, ew]
    · obtain ⟨p, rfl⟩ : ∃ p : Nat, z = p := ⟨z.toNat, by omega⟩
      have hp : p ≤ 1000000 := by omega
      obtain ⟨u1, g1, c17, i1⟩ := sq17_ex hp (H ++ g)
      have c18 := count18 hp (H ++ g ++ g1)
      obtain ⟨u2, g2, c20, i2⟩ := sq20_ex hp (H ++ g ++ g1)
      have c19 := pairs19 (i1.app g2) i2 (by have := sqs_len hp; omega)
      have c21 := countR21 hp (H ++ g ++ g1 ++ g2)
      rw [decide_eq_true rfl] at c19
      have b1 : ¬ ((p : Int) < 0) := by omega
      have b2 : ¬ ((1000000 : Int) < p) := by omega
      obtain ⟨s1, t1, rfl, _⟩ := i1
      obtain ⟨s2, t2, rfl, _⟩ := i2
      generalize cnt (sqs p) = C at *
      simp only [List.append_assoc] at c17 c18 c19 c20 c21
      by_cases hr1 : r = 1
      · have i1 : ((r : Int) = 1) = True := eq_true (by omega)
        repeat (first | apply run_seq | apply run_block | apply end_seq | apply end_blk_hit | apply end_blk_miss rfl | apply end_blk | apply end_seq_exit | apply end_seq_ret | apply end_blk_ret | apply run_skip | apply run_ret | apply run_exit | (apply run_region (by decide); (simp only [go_sem, r0, r3, e1, c17, c18, c19, c20, c21, b1, b2, hq, w1, i1, ew]; rfl)) | (refine run_cond_t ?_ ?_; · simp only [go_sem]) | (refine run_cond_f ?_ ?_; · simp only [go_sem]))
        refine end_nil ⟨k - 1, by omega, r + 1, _, g ++ (g1 ++ g2), by omega, by simp only [go_sem]; rfl, ?_, rfl, by simp, rfl⟩
        simp only [go_sem, ew]
      · have i1 : ((r : Int) = 1) = False := eq_false (by omega)
        repeat (first | apply run_seq | apply run_block | apply end_seq | apply end_blk_hit | apply end_blk_miss rfl | apply end_blk | apply end_seq_exit | apply end_seq_ret | apply end_blk_ret | apply run_skip | apply run_ret | apply run_exit | (apply run_region (by decide); (simp only [go_sem, r0, r3, e1, c17, c18, c19, c20, c21, b1, b2, hq, w1, i1, ew]; rfl)) | (refine run_cond_t ?_ ?_; · simp only [go_sem]) | (refine run_cond_f ?_ ?_; · simp only [go_sem]))
        refine end_nil ⟨k - 1, by omega, r + 1, q, g ++ (g1 ++ g2), by omega, by simp only [go_sem], ?_, rfl, by simp, rfl⟩
        simp only [go_sem, ew]

/-- GaussSquares on the shadow machine -/
theorem law3 (z : Int) (h : SHeap) : M.call 3 [.int .i64 z] h = some (.bool true, h, []) := by
  refine call_run sf3 rfl rfl rfl ?_
  unfold sf3
  repeat (first | apply run_seq | apply run_block | apply end_seq | apply end_blk_hit | apply end_blk_miss rfl | apply end_blk | apply end_seq_exit | apply end_seq_ret | apply end_blk_ret | apply run_skip | apply run_ret | apply run_exit | (apply run_region (by decide); (simp only [go_sem, argR]; rfl)) | (refine run_cond_t ?_ ?_; · simp only [go_sem]) | (refine run_cond_f ?_ ?_; · simp only [go_sem]))
  refine run_loop (sqlaw_loop _ h 3 _ _ _ _ ⟨0, z, [], rfl, ?_, ?_, rfl, by simp, rfl⟩) ?_
  · simp only [go_sem, argR]
  · (simp only [go_sem]) <;> rfl
  rintro ex ρ' ms' h1 d1 ⟨rfl, rfl, ⟨g, rfl⟩, rfl⟩
  repeat (first | apply run_seq | apply run_block | apply end_seq | apply end_blk_hit | apply end_blk_miss rfl | apply end_blk | apply end_seq_exit | apply end_seq_ret | apply end_blk_ret | apply run_skip | apply run_ret | apply run_exit | (apply run_region (by decide); (simp only [go_sem, awake_call]; rfl)) | (refine run_cond_t ?_ ?_; · simp only [go_sem]) | (refine run_cond_f ?_ ?_; · simp only [go_sem]))
  exact end_nil (q_ret1 _ (by simp only [go_sem]) rfl (take_app _ _))
end Go.Proofs.YtdmfhdnpakgkpaaDoor.Sh

