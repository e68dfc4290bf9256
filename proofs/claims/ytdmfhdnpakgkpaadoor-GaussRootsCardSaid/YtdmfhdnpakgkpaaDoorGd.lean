/- GaussRoots: the law. -/
import Derived.Test.YtdmfhdnpakgkpaaDoorGc
set_option linter.all false
namespace Go.Proofs.YtdmfhdnpakgkpaaDoor.Sh
open Go
set_option maxRecDepth 100000

theorem u64_mod' (z n : Int) (h0 : 0 < n) : 0 ≤ (IntKind.u64.wrap z).tmod n ∧ (IntKind.u64.wrap z).tmod n < n := by
  have hu : 0 ≤ IntKind.u64.wrap z := by
    simp only [IntKind.wrap, IntKind.signed, Bool.false_eq_true, if_false]
    exact Int.emod_nonneg _ (by decide)
  rw [Int.tmod_eq_emod_of_nonneg hu]
  exact ⟨Int.emod_nonneg _ (by omega), Int.emod_lt_of_pos _ h0⟩

theorem roots_loop (cx : Cx) (H : SHeap) : ∀ k ρ ms h' d', (∃ (r : Nat) (z : Int), r + k = 3 ∧ ρ 0 = .int .i64 z ∧ ρ 3 = .int .i64 r ∧ ms = [] ∧ h' = H ∧ d' = []) →
    LoopW M cx 7 sf4L0 ρ ms h' d' (fun ex ρ' ms' h' d' => ex = .exit 0 ∧ ms' = [] ∧ h' = H ∧ d' = []) := by
  refine loop_run _ ?_
  rintro k ρ ms h' d' ⟨r, z, hr, r0, r3, rfl, rfl, rfl⟩
  unfold sf4L0
  by_cases hk : k = 0
  · have e1 : ¬ ((r : Int) < 3) := by omega
    repeat (first | apply run_seq | apply run_block | apply end_seq | apply end_blk_hit | apply end_blk_miss rfl | apply end_blk | apply end_seq_exit | apply end_seq_ret | apply end_blk_ret | apply run_skip | apply run_ret | apply run_exit | (apply run_region (by decide); (simp only [go_sem, r3, e1]; rfl)) | (refine run_cond_t ?_ ?_; · simp only [go_sem]) | (refine run_cond_f ?_ ?_; · simp only [go_sem]))
    exact end_nil ⟨rfl, rfl, rfl, rfl⟩
  · have e1 : (r : Int) < 3 := by omega
    have ew : IntKind.i64.wrap ((r : Int) + 1) = ((r + 1 : Nat) : Int) := by rw [wrap64 (by omega) (by omega)]; rfl
    obtain ⟨q1, q2⟩ := u64_mod' z 999999 (by decide)
    generalize hq : (IntKind.u64.wrap z).tmod 999999 = q at *
    have w1 : IntKind.i64.wrap q = q := wrap64 (by omega) (by omega)
    have w2 : IntKind.i64.wrap (2 + q) = 2 + q := wrap64 (by omega) (by omega)
    have t0 : (2 + q).tmod 500 = (2 + q) % 500 := Int.tmod_eq_emod_of_nonneg (by omega)
    have w3 : IntKind.i64.wrap (2 + (2 + q) % 500) = 2 + (2 + q) % 500 := wrap64 (by omega) (by omega)
    have fin : ∀ z2 : Int, ∃ z3, z3 = z2 := fun z2 => ⟨z2, rfl⟩
    by_cases b1 : z < 2
    · have c23 := fun h => root23_no (.inl b1) h
      by_cases hr1 : r = 1
      · have i1 : ((r : Int) = 1) = True := eq_true (by omega)
        repeat (first | apply run_seq | apply run_block | apply end_seq | apply end_blk_hit | apply end_blk_miss rfl | apply end_blk | apply end_seq_exit | apply end_seq_ret | apply end_blk_ret | apply run_skip | apply run_ret | apply run_exit | (apply run_region (by decide); (simp only [go_sem, r0, r3, e1, c23, b1, hq, w1, w2, t0, w3, i1, ew]; rfl)) | (refine run_cond_t ?_ ?_; · simp only [go_sem]) | (refine run_cond_f ?_ ?_; · simp only [go_sem]))
        refine end_nil ⟨k - 1, by omega, r + 1, 2 + (2 + q) % 500, by omega, ?_, ?_, rfl, rfl, rfl⟩
        · simp only [go_sem]
        · simp only [go_sem, ew]
      · have i1 : ((r : Int) = 1) = False := eq_false (by omega)
        repeat (first | apply run_seq | apply run_block | apply end_seq | apply end_blk_hit | apply end_blk_miss rfl | apply end_blk | apply end_seq_exit | apply end_seq_ret | apply end_blk_ret | apply run_skip | apply run_ret | apply run_exit | (apply run_region (by decide); (simp only [go_sem, r0, r3, e1, c23, b1, hq, w1, w2, t0, w3, i1, ew]; rfl)) | (refine run_cond_t ?_ ?_; · simp only [go_sem]) | (refine run_cond_f ?_ ?_; · simp only [go_sem]))
        refine end_nil ⟨k - 1, by omega, r + 1, 2 + q, by omega, ?_, ?_, rfl, rfl, rfl⟩
        · simp only [go_sem]
        · simp only [go_sem, ew]
    · by_cases b2 : 1000000 < z
      · have c23 := fun h => root23_no (.inr b2) h
        by_cases hr1 : r = 1
        · have i1 : ((r : Int) = 1) = True := eq_true (by omega)
          repeat (first | apply run_seq | apply run_block | apply end_seq | apply end_blk_hit | apply end_blk_miss rfl | apply end_blk | apply end_seq_exit | apply end_seq_ret | apply end_blk_ret | apply run_skip | apply run_ret | apply run_exit | (apply run_region (by decide); (simp only [go_sem, r0, r3, e1, c23, b1, b2, hq, w1, w2, t0, w3, i1, ew]; rfl)) | (refine run_cond_t ?_ ?_; · simp only [go_sem]) | (refine run_cond_f ?_ ?_; · simp only [go_sem]))
          refine end_nil ⟨k - 1, by omega, r + 1, 2 + (2 + q) % 500, by omega, ?_, ?_, rfl, rfl, rfl⟩
          · simp only [go_sem]
          · simp only [go_sem, ew]
        · have i1 : ((r : Int) = 1) = False := eq_false (by omega)
          repeat (first | apply run_seq | apply run_block | apply end_seq | apply end_blk_hit | apply end_blk_miss rfl | apply end_blk | apply end_seq_exit | apply end_seq_ret | apply end_blk_ret | apply run_skip | apply run_ret | apply run_exit | (apply run_region (by decide); (simp only [go_sem, r0, r3, e1, c23, b1, b2, hq, w1, w2, t0, w3, i1, ew]; rfl)) | (refine run_cond_t ?_ ?_; · simp only [go_sem]) | (refine run_cond_f ?_ ?_; · simp only [go_sem]))
          refine end_nil ⟨k - 1, by omega, r + 1, 2 + q, by omega, ?_, ?_, rfl, rfl, rfl⟩
          · simp only [go_sem]
          · simp only [go_sem, ew]
      · obtain ⟨p, rfl⟩ : ∃ p : Nat, z = p := ⟨z.toNat, by omega⟩
        have c23 := fun h => root23 (p := p) (by omega) (by omega) h
        have c24 := fun h => rootR24 (p := p) (by omega) (by omega) h
        by_cases h0 : rootN p = 0
        · simp only [h0, if_true] at c23 c24
          have n0 : ((0 : Nat) : Int) = 0 := rfl
          rw [n0] at c23 c24
          by_cases hr1 : r = 1
          · have i1 : ((r : Int) = 1) = True := eq_true (by omega)
            repeat (first | apply run_seq | apply run_block | apply end_seq | apply end_blk_hit | apply end_blk_miss rfl | apply end_blk | apply end_seq_exit | apply end_seq_ret | apply end_blk_ret | apply run_skip | apply run_ret | apply run_exit | (apply run_region (by decide); (simp only [go_sem, r0, r3, e1, c23, c24, b1, b2, hq, w1, w2, t0, w3, i1, ew]; rfl)) | (refine run_cond_t ?_ ?_; · simp only [go_sem]) | (refine run_cond_f ?_ ?_; · simp only [go_sem]))
            refine end_nil ⟨k - 1, by omega, r + 1, 2 + (2 + q) % 500, by omega, ?_, ?_, rfl, rfl, rfl⟩
            · simp only [go_sem]
            · simp only [go_sem, ew]
          · have i1 : ((r : Int) = 1) = False := eq_false (by omega)
            repeat (first | apply run_seq | apply run_block | apply end_seq | apply end_blk_hit | apply end_blk_miss rfl | apply end_blk | apply end_seq_exit | apply end_seq_ret | apply end_blk_ret | apply run_skip | apply run_ret | apply run_exit | (apply run_region (by decide); (simp only [go_sem, r0, r3, e1, c23, c24, b1, b2, hq, w1, w2, t0, w3, i1, ew]; rfl)) | (refine run_cond_t ?_ ?_; · simp only [go_sem]) | (refine run_cond_f ?_ ?_; · simp only [go_sem]))
            refine end_nil ⟨k - 1, by omega, r + 1, 2 + q, by omega, ?_, ?_, rfl, rfl, rfl⟩
            · simp only [go_sem]
            · simp only [go_sem, ew]
        · simp only [h0, if_false] at c23
          have z1 : ¬ ((rootN p : Int) = 0) := by omega
          have z2 : (0 : Int) < rootN p := by omega
          by_cases hr1 : r = 1
          · have i1 : ((r : Int) = 1) = True := eq_true (by omega)
            repeat (first | apply run_seq | apply run_block | apply end_seq | apply end_blk_hit | apply end_blk_miss rfl | apply end_blk | apply end_seq_exit | apply end_seq_ret | apply end_blk_ret | apply run_skip | apply run_ret | apply run_exit | (apply run_region (by decide); (simp only [go_sem, r0, r3, e1, c23, c24, b1, b2, z1, z2, hq, w1, w2, t0, w3, i1, ew]; rfl)) | (refine run_cond_t ?_ ?_; · simp only [go_sem]) | (refine run_cond_f ?_ ?_; · simp only [go_sem]))
            refine end_nil ⟨k - 1, by omega, r + 1, 2 + (2 + q) % 500, by omega, ?_, ?_, rfl, rfl, rfl⟩
            · simp only [go_sem]
            · simp only [go_sem, ew]
          · have i1 : ((r : Int) = 1) = False := eq_false (by omega)
            repeat (first | apply run_seq | apply run_block | apply end_seq | apply end_blk_hit | apply end_blk_miss rfl | apply end_blk | apply end_seq_exit | apply end_seq_ret | apply end_blk_ret | apply run_skip | apply run_ret | apply run_exit | (apply run_region (by decide); (simp only [go_sem, r0, r3, e1, c23, c24, b1, b2, z1, z2, hq, w1, w2, t0, w3, i1, ew]; rfl)) | (refine run_cond_t ?_ ?_; · simp only [go_sem]) | (refine run_cond_f ?_ ?_; · simp only [go_sem]))
            refine end_nil ⟨k - 1, by omega, r + 1, 2 + q, by omega, ?_, ?_, rfl, rfl, rfl⟩
            · simp only [go_sem]
            · simp only [go_sem, ew]

/-- GaussRoots on the shadow machine -/
theorem law4 (z : Int) (h : SHeap) : M.call 4 [.int .i64 z] h = some (.bool true, h, []) := by
  refine call_run sf4 rfl rfl rfl ?_
  unfold sf4
  repeat (first | apply run_seq | apply run_block | apply end_seq | apply end_blk_hit | apply end_blk_miss rfl | apply end_blk | apply end_seq_exit | apply end_seq_ret | apply end_blk_ret | apply run_skip | apply run_ret | apply run_exit | (apply run_region (by decide); (simp only [go_sem, argR]; rfl)) | (refine run_cond_t ?_ ?_; · simp only [go_sem]) | (refine run_cond_f ?_ ?_; · simp only [go_sem]))
  refine run_loop (roots_loop _ h 3 _ _ _ _ ⟨0, z, rfl, ?_, ?_, rfl, rfl, rfl⟩) ?_
  · simp only [go_sem, argR]
  · (simp only [go_sem]) <;> rfl
  rintro ex ρ' ms' h1 d1 ⟨rfl, rfl, rfl, rfl⟩
  repeat (first | apply run_seq | apply run_block | apply end_seq | apply end_blk_hit | apply end_blk_miss rfl | apply end_blk | apply end_seq_exit | apply end_seq_ret | apply end_blk_ret | apply run_skip | apply run_ret | apply run_exit | (apply run_region (by decide); (simp only [go_sem, awake_call]; rfl)) | (refine run_cond_t ?_ ?_; · simp only [go_sem]) | (refine run_cond_f ?_ ?_; · simp only [go_sem]))
  exact end_nil (q_ret1 _ (by simp only [go_sem]) rfl (take_self _))
end Go.Proofs.YtdmfhdnpakgkpaaDoor.Sh

