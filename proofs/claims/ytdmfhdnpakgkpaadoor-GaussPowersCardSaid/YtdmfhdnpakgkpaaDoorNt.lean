/- GaussPowers: the rest of any power; the law. -/
import Derived.Test.YtdmfhdnpakgkpaaDoorNq
set_option linter.all false
namespace Go.Proofs.YtdmfhdnpakgkpaaDoor.Sh
open Go
set_option maxRecDepth 100000
set_option maxHeartbeats 4000000

/-- the rest of a power, squaring -/
def powF (y : Int × Int) (n : Nat) (out b : Int × Int) : Int × Int :=
  if n = 0 then out else powF y (n / 2) (if n % 2 = 1 then restP (mulP out b) y else out) (restP (mulP b b) y)
termination_by n
decreasing_by omega
def powP (x : Int × Int) (n : Nat) (y : Int × Int) : Int × Int := powF y n (restP (1, 0) y) (restP x y)
abbrev b6 (p : Int × Int) : SO := .cells [.int .i64 p.1, .int .i64 p.2] 68 true 0 []

theorem pow_loop (cx : Cx) {y : Int × Int} (hy : Bd 30000 y) (h0 : y ≠ (0, 0)) (H : SHeap) (x q1 q2 z : Int × Int) : ∀ k ρ ms h' d', (∃ out b : Int × Int, Bd 30000 out ∧ Bd 30000 b ∧ k ≤ 1000000000 ∧ powF y k out b = z ∧ ρ 1 = .int .i64 k ∧ ρ 5 = .pointer (some ⟨H.length + 1, 0, none⟩) ∧ ρ 6 = .pointer (some ⟨H.length + 2, 0, none⟩) ∧ ρ 10 = .pointer (some ⟨H.length + 5, 0, none⟩) ∧ ρ 12 = .pointer (some ⟨H.length + 7, 0, none⟩) ∧ h' = H ++ [bx x, bx y, bz, bs x y, b6 q1, b6 out, b6 q2, b6 b] ∧ ms = [] ∧ d' = []) →
    LoopW M cx 7 sf40L0 ρ ms h' d' (fun ex ρ' ms' h' d' => ex = .exit 0 ∧ ms' = [] ∧ d' = [] ∧ ρ' 6 = .pointer (some ⟨H.length + 2, 0, none⟩) ∧ ρ' 10 = .pointer (some ⟨H.length + 5, 0, none⟩) ∧ ∃ b, h' = H ++ [bx x, bx y, bz, bs x y, b6 q1, b6 z, b6 q2, b6 b]) := by
  refine loop_run _ ?_
  rintro k ρ ms h' d' ⟨out, b, ho, hb, hk, hz, r1, r5, r6, r10, r12, rfl, rfl, rfl⟩
  have hn := nrm_pos h0
  unfold sf40L0
  by_cases c : k = 0
  · have e1 : ¬ ((0 : Int) < k) := by omega
    repeat (first | apply run_seq | apply run_block | apply end_seq | apply end_blk_hit | apply end_blk_miss rfl | apply end_blk | apply end_seq_exit | apply end_seq_ret | apply end_blk_ret | apply run_skip | apply run_ret | apply run_exit | (apply run_region (by decide); (simp (maxSteps := 9999999) only [go_sem, r1, r5, r6, r10, r12, e1]; rfl)) | (apply run_regionN (by decide); (simp (maxSteps := 9999999) only [go_sem, r1, r5, r6, r10, r12, e1]; rfl)) | (refine run_cond_t ?_ ?_; · simp only [go_sem]) | (refine run_cond_f ?_ ?_; · simp only [go_sem]))
    refine end_nil ⟨rfl, rfl, rfl, ?_, ?_, b, ?_⟩
    · simp (maxSteps := 9999999) only [go_sem, r6]
    · simp (maxSteps := 9999999) only [go_sem, r10]
    · rw [powF, if_pos c] at hz
      rw [hz]
  · have e1 : ((0 : Int) < k) := by omega
    have m2 : ((k : Nat) : Int).tmod 2 = ((k % 2 : Nat) : Int) := tmod_nat k 2
    have d2 : IntKind.i64.wrap (((k : Nat) : Int).tdiv 2) = ((k / 2 : Nat) : Int) := by
      rw [Int.tdiv_eq_ediv_of_nonneg (by omega), wrap64 (by omega) (by omega)]; rfl
    have c65 := fun h => times65 ho hb (by decide) h
    have c60 := fun h => quo60 (mulP_bd ho hb) hy (by decide) (by decide) (by decide) h0 h
    have c65' := fun h => times65 hb hb (by decide) h
    have c60' := fun h => quo60 (mulP_bd hb hb) hy (by decide) (by decide) (by decide) h0 h
    rw [powF, if_neg c] at hz
    have bb := rest_bd (x := mulP b b) hn hy
    by_cases p : k % 2 = 1
    · rw [if_pos p] at hz
      have e2 : ((k % 2 : Nat) : Int) = 1 := by omega
      repeat (first | apply run_seq | apply run_block | apply end_seq | apply end_blk_hit | apply end_blk_miss rfl | apply end_blk | apply end_seq_exit | apply end_seq_ret | apply end_blk_ret | apply run_skip | apply run_ret | apply run_exit | (apply run_region (by decide); (simp (maxSteps := 9999999) only [go_sem, r1, r5, r6, r10, r12, e1, m2, e2, d2, c65, c60, c65', c60']; rfl)) | (apply run_regionN (by decide); (simp (maxSteps := 9999999) only [go_sem, r1, r5, r6, r10, r12, e1, m2, e2, d2, c65, c60, c65', c60']; rfl)) | (refine run_cond_t ?_ ?_; · simp only [go_sem]) | (refine run_cond_f ?_ ?_; · simp only [go_sem]))
      refine end_nil ⟨k / 2, by omega, restP (mulP out b) y, restP (mulP b b) y, rest_bd hn hy, bb, by omega, hz, ?_, ?_, ?_, ?_, ?_, rfl, rfl, rfl⟩
      · simp (maxSteps := 9999999) only [go_sem, d2]
      · simp (maxSteps := 9999999) only [go_sem, r5]
      · simp (maxSteps := 9999999) only [go_sem, r6]
      · simp (maxSteps := 9999999) only [go_sem, r10]
      · simp (maxSteps := 9999999) only [go_sem, r12]
    · rw [if_neg p] at hz
      have e2 : ¬ ((k % 2 : Nat) : Int) = 1 := by omega
      repeat (first | apply run_seq | apply run_block | apply end_seq | apply end_blk_hit | apply end_blk_miss rfl | apply end_blk | apply end_seq_exit | apply end_seq_ret | apply end_blk_ret | apply run_skip | apply run_ret | apply run_exit | (apply run_region (by decide); (simp (maxSteps := 9999999) only [go_sem, r1, r5, r6, r10, r12, e1, m2, e2, d2, c65, c60, c65', c60']; rfl)) | (apply run_regionN (by decide); (simp (maxSteps := 9999999) only [go_sem, r1, r5, r6, r10, r12, e1, m2, e2, d2, c65, c60, c65', c60']; rfl)) | (refine run_cond_t ?_ ?_; · simp only [go_sem]) | (refine run_cond_f ?_ ?_; · simp only [go_sem]))
      refine end_nil ⟨k / 2, by omega, out, restP (mulP b b) y, ho, bb, by omega, hz, ?_, ?_, ?_, ?_, ?_, rfl, rfl, rfl⟩
      · simp (maxSteps := 9999999) only [go_sem, d2]
      · simp (maxSteps := 9999999) only [go_sem, r5]
      · simp (maxSteps := 9999999) only [go_sem, r6]
      · simp (maxSteps := 9999999) only [go_sem, r10]
      · simp (maxSteps := 9999999) only [go_sem, r12]

/-- Power -/
theorem power40 {x y : Int × Int} {n : Nat} (hx : Bd 30000 x) (hy : Bd 30000 y) (h0 : y ≠ (0, 0)) (hn : n ≤ 1000000000) (h : SHeap) : M.call 40 [agV x, .int .i64 n, agV y] h = some (.tuple #[agV (powP x n y), .int .i64 0], h, []) := by
  have hny := nrm_pos h0
  have c64 := open2 x y h [bx x, bx y, bz, bs x y] 3 rfl
  rw [if_pos ⟨hx, hy⟩] at c64
  have e : (y = (0, 0)) = False := eq_false h0
  have e1 : ¬ ((n : Int) < 0) := by omega
  have e2 : ¬ ((1000000000 : Int) < n) := by omega
  have c60 := fun h => quo60 hx hy (by decide) (by decide) (by decide) h0 h
  have c60' := fun h => quo60 (show Bd 30000 ((1 : Int), (0 : Int)) by decide) hy (by decide) (by decide) (by decide) h0 h
  refine call_run sf40 rfl rfl rfl ?_
  unfold sf40
  repeat (first | apply run_seq | apply run_block | apply end_seq | apply end_blk_hit | apply end_blk_miss rfl | apply end_blk | apply end_seq_exit | apply end_seq_ret | apply end_blk_ret | apply run_skip | apply run_ret | apply run_exit | (apply run_region (by decide); (simp (maxSteps := 9999999) only [go_sem, argR, c64, e, e1, e2, c60, c60']; rfl)) | (apply run_regionN (by decide); (simp (maxSteps := 9999999) only [go_sem, argR, c64, e, e1, e2, c60, c60']; rfl)) | (refine run_cond_t ?_ ?_; · simp only [go_sem]) | (refine run_cond_f ?_ ?_; · simp only [go_sem]))
  refine run_loop (pow_loop _ hy h0 h x (quoP (1, 0) y) (quoP x y) (powP x n y) n _ _ _ _ ⟨restP (1, 0) y, restP x y, rest_bd hny hy, rest_bd hny hy, hn, rfl, ?_, ?_, ?_, ?_, ?_, rfl, rfl, rfl⟩) ?_
  · simp (maxSteps := 9999999) only [go_sem, argR]
  · simp (maxSteps := 9999999) only [go_sem]
  · simp (maxSteps := 9999999) only [go_sem]
  · simp (maxSteps := 9999999) only [go_sem]
  · simp (maxSteps := 9999999) only [go_sem]
  rintro ex ρ' ms' h1 d1 ⟨rfl, rfl, rfl, k6, k10, b, rfl⟩
  repeat (first | apply run_seq | apply run_block | apply end_seq | apply end_blk_hit | apply end_blk_miss rfl | apply end_blk | apply end_seq_exit | apply end_seq_ret | apply end_blk_ret | apply run_skip | apply run_ret | apply run_exit | (apply run_region (by decide); (simp (maxSteps := 9999999) only [go_sem, k6, k10]; rfl)) | (apply run_regionN (by decide); (simp (maxSteps := 9999999) only [go_sem, k6, k10]; rfl)) | (refine run_cond_t ?_ ?_; · simp only [go_sem]) | (refine run_cond_f ?_ ?_; · simp only [go_sem]))
  exact end_nil (q_free [agV (powP x n y), .int .i64 0] (by simp (maxSteps := 9999999) only [go_sem, k6]) rfl rfl rfl (fun _ => rfl) (take_app _ _) rfl)
theorem power40_arg {x y : Int × Int} {n : Int} (hx : Bd 30000 x) (hy : Bd 30000 y) (hc : y = (0, 0) ∨ n < 0 ∨ 1000000000 < n) (h : SHeap) : M.call 40 [agV x, .int .i64 n, agV y] h = some (.tuple #[.agg #[.int .i64 0, .int .i64 0], .int .i64 1], h, []) := by
  have c64 := open2 x y h [bx x, bx y, bz, bs x y] 3 rfl
  rw [if_pos ⟨hx, hy⟩] at c64
  refine call_run sf40 rfl rfl rfl ?_
  unfold sf40
  by_cases c : y = (0, 0)
  · have e : (y = (0, 0)) = True := eq_true c
    repeat (first | apply run_seq | apply run_block | apply end_seq | apply end_blk_hit | apply end_blk_miss rfl | apply end_blk | apply end_seq_exit | apply end_seq_ret | apply end_blk_ret | apply run_skip | apply run_ret | apply run_exit | (apply run_region (by decide); (simp (maxSteps := 9999999) only [go_sem, argR, c64, e]; rfl)) | (apply run_regionN (by decide); (simp (maxSteps := 9999999) only [go_sem, argR, c64, e]; rfl)) | (refine run_cond_t ?_ ?_; · simp only [go_sem]) | (refine run_cond_f ?_ ?_; · simp only [go_sem]))
    exact end_nil (q_free [.agg #[.int .i64 0, .int .i64 0], .int .i64 1] (by simp (maxSteps := 9999999) only [go_sem]) rfl rfl rfl (fun _ => rfl) (take_app _ _) rfl)
  · have e : (y = (0, 0)) = False := eq_false c
    by_cases c1 : n < 0
    · repeat (first | apply run_seq | apply run_block | apply end_seq | apply end_blk_hit | apply end_blk_miss rfl | apply end_blk | apply end_seq_exit | apply end_seq_ret | apply end_blk_ret | apply run_skip | apply run_ret | apply run_exit | (apply run_region (by decide); (simp (maxSteps := 9999999) only [go_sem, argR, c64, e, c1]; rfl)) | (apply run_regionN (by decide); (simp (maxSteps := 9999999) only [go_sem, argR, c64, e, c1]; rfl)) | (refine run_cond_t ?_ ?_; · simp only [go_sem]) | (refine run_cond_f ?_ ?_; · simp only [go_sem]))
      exact end_nil (q_free [.agg #[.int .i64 0, .int .i64 0], .int .i64 1] (by simp (maxSteps := 9999999) only [go_sem]) rfl rfl rfl (fun _ => rfl) (take_app _ _) rfl)
    · have c2 : 1000000000 < n := by
        rcases hc with k | k | k
        · exact (c k).elim
        · omega
        · exact k
      repeat (first | apply run_seq | apply run_block | apply end_seq | apply end_blk_hit | apply end_blk_miss rfl | apply end_blk | apply end_seq_exit | apply end_seq_ret | apply end_blk_ret | apply run_skip | apply run_ret | apply run_exit | (apply run_region (by decide); (simp (maxSteps := 9999999) only [go_sem, argR, c64, e, c1, c2]; rfl)) | (apply run_regionN (by decide); (simp (maxSteps := 9999999) only [go_sem, argR, c64, e, c1, c2]; rfl)) | (refine run_cond_t ?_ ?_; · simp only [go_sem]) | (refine run_cond_f ?_ ?_; · simp only [go_sem]))
      exact end_nil (q_free [.agg #[.int .i64 0, .int .i64 0], .int .i64 1] (by simp (maxSteps := 9999999) only [go_sem]) rfl rfl rfl (fun _ => rfl) (take_app _ _) rfl)

theorem powR_loop (cx : Cx) {y : Int × Int} (hy : Bd 30000 y) (h0 : y ≠ (0, 0)) (H : SHeap) (z : Int × Int) : ∀ k ρ ms h' d', (∃ out b : Int × Int, Bd 30000 out ∧ Bd 30000 b ∧ k ≤ 1000000000 ∧ powF y k out b = z ∧ ρ 1 = .int .i64 k ∧ ρ 3 = .pointer (some ⟨H.length, 0, none⟩) ∧ ρ 5 = .pointer (some ⟨H.length + 1, 0, none⟩) ∧ ρ 6 = .pointer (some ⟨H.length + 2, 0, none⟩) ∧ ρ 7 = .pointer (some ⟨H.length + 3, 0, none⟩) ∧ h' = H ++ [bx b, bx y, bz, bx out] ∧ ms = [] ∧ d' = []) →
    LoopW M cx 6 sf41L0 ρ ms h' d' (fun ex ρ' ms' h' d' => ex = .exit 0 ∧ ms' = [] ∧ d' = [] ∧ ρ' 6 = .pointer (some ⟨H.length + 2, 0, none⟩) ∧ ρ' 7 = .pointer (some ⟨H.length + 3, 0, none⟩) ∧ ∃ b, h' = H ++ [bx b, bx y, bz, bx z]) := by
  refine loop_run _ ?_
  rintro k ρ ms h' d' ⟨out, b, ho, hb, hk, hz, r1, r3, r5, r6, r7, rfl, rfl, rfl⟩
  have hn := nrm_pos h0
  unfold sf41L0
  by_cases c : k = 0
  · have e1 : ¬ ((0 : Int) < k) := by omega
    repeat (first | apply run_seq | apply run_block | apply end_seq | apply end_blk_hit | apply end_blk_miss rfl | apply end_blk | apply end_seq_exit | apply end_seq_ret | apply end_blk_ret | apply run_skip | apply run_ret | apply run_exit | (apply run_region (by decide); (simp (maxSteps := 9999999) only [go_sem, r1, r3, r5, r6, r7, e1]; rfl)) | (apply run_regionN (by decide); (simp (maxSteps := 9999999) only [go_sem, r1, r3, r5, r6, r7, e1]; rfl)) | (refine run_cond_t ?_ ?_; · simp only [go_sem]) | (refine run_cond_f ?_ ?_; · simp only [go_sem]))
    refine end_nil ⟨rfl, rfl, rfl, ?_, ?_, b, ?_⟩
    · simp (maxSteps := 9999999) only [go_sem, r6]
    · simp (maxSteps := 9999999) only [go_sem, r7]
    · rw [powF, if_pos c] at hz
      rw [hz]
  · have e1 : ((0 : Int) < k) := by omega
    have m2 : ((k : Nat) : Int).tmod 2 = ((k % 2 : Nat) : Int) := tmod_nat k 2
    have d2 : IntKind.i64.wrap (((k : Nat) : Int).tdiv 2) = ((k / 2 : Nat) : Int) := by
      rw [Int.tdiv_eq_ediv_of_nonneg (by omega), wrap64 (by omega) (by omega)]; rfl
    have c35 := fun h => mulR35 ho hb (by decide) h
    have c56 := fun h => rest56 (mulP_bd ho hb) hy (by decide) (by decide) (by decide) h0 h
    have c35' := fun h => mulR35 hb hb (by decide) h
    have c56' := fun h => rest56 (mulP_bd hb hb) hy (by decide) (by decide) (by decide) h0 h
    rw [powF, if_neg c] at hz
    have bb := rest_bd (x := mulP b b) hn hy
    by_cases p : k % 2 = 1
    · rw [if_pos p] at hz
      have e2 : ((k % 2 : Nat) : Int) = 1 := by omega
      repeat (first | apply run_seq | apply run_block | apply end_seq | apply end_blk_hit | apply end_blk_miss rfl | apply end_blk | apply end_seq_exit | apply end_seq_ret | apply end_blk_ret | apply run_skip | apply run_ret | apply run_exit | (apply run_region (by decide); (simp (maxSteps := 9999999) only [go_sem, r1, r3, r5, r6, r7, e1, m2, e2, d2, c35, c56, c35', c56']; rfl)) | (apply run_regionN (by decide); (simp (maxSteps := 9999999) only [go_sem, r1, r3, r5, r6, r7, e1, m2, e2, d2, c35, c56, c35', c56']; rfl)) | (refine run_cond_t ?_ ?_; · simp only [go_sem]) | (refine run_cond_f ?_ ?_; · simp only [go_sem]))
      refine end_nil ⟨k / 2, by omega, restP (mulP out b) y, restP (mulP b b) y, rest_bd hn hy, bb, by omega, hz, ?_, ?_, ?_, ?_, ?_, rfl, rfl, rfl⟩
      · simp (maxSteps := 9999999) only [go_sem, d2]
      · simp (maxSteps := 9999999) only [go_sem, r3]
      · simp (maxSteps := 9999999) only [go_sem, r5]
      · simp (maxSteps := 9999999) only [go_sem, r6]
      · simp (maxSteps := 9999999) only [go_sem, r7]
    · rw [if_neg p] at hz
      have e2 : ¬ ((k % 2 : Nat) : Int) = 1 := by omega
      repeat (first | apply run_seq | apply run_block | apply end_seq | apply end_blk_hit | apply end_blk_miss rfl | apply end_blk | apply end_seq_exit | apply end_seq_ret | apply end_blk_ret | apply run_skip | apply run_ret | apply run_exit | (apply run_region (by decide); (simp (maxSteps := 9999999) only [go_sem, r1, r3, r5, r6, r7, e1, m2, e2, d2, c35, c56, c35', c56']; rfl)) | (apply run_regionN (by decide); (simp (maxSteps := 9999999) only [go_sem, r1, r3, r5, r6, r7, e1, m2, e2, d2, c35, c56, c35', c56']; rfl)) | (refine run_cond_t ?_ ?_; · simp only [go_sem]) | (refine run_cond_f ?_ ?_; · simp only [go_sem]))
      refine end_nil ⟨k / 2, by omega, out, restP (mulP b b) y, ho, bb, by omega, hz, ?_, ?_, ?_, ?_, ?_, rfl, rfl, rfl⟩
      · simp (maxSteps := 9999999) only [go_sem, d2]
      · simp (maxSteps := 9999999) only [go_sem, r3]
      · simp (maxSteps := 9999999) only [go_sem, r5]
      · simp (maxSteps := 9999999) only [go_sem, r6]
      · simp (maxSteps := 9999999) only [go_sem, r7]
/-- Power of the document -/
theorem powerR41 {x y : Int × Int} {n : Nat} (hx : Bd 30000 x) (hy : Bd 30000 y) (h0 : y ≠ (0, 0)) (hn : n ≤ 1000000000) (h : SHeap) : M.call 41 [agV x, .int .i64 n, agV y] h = some (agV (powP x n y), h, []) := by
  have hny := nrm_pos h0
  have c56 := fun h => rest56 hx hy (by decide) (by decide) (by decide) h0 h
  have c56' := fun h => rest56 (show Bd 30000 ((1 : Int), (0 : Int)) by decide) hy (by decide) (by decide) (by decide) h0 h
  refine call_run sf41 rfl rfl rfl ?_
  unfold sf41
  repeat (first | apply run_seq | apply run_block | apply end_seq | apply end_blk_hit | apply end_blk_miss rfl | apply end_blk | apply end_seq_exit | apply end_seq_ret | apply end_blk_ret | apply run_skip | apply run_ret | apply run_exit | (apply run_region (by decide); (simp (maxSteps := 9999999) only [go_sem, argR, c56, c56']; rfl)) | (apply run_regionN (by decide); (simp (maxSteps := 9999999) only [go_sem, argR, c56, c56']; rfl)) | (refine run_cond_t ?_ ?_; · simp only [go_sem]) | (refine run_cond_f ?_ ?_; · simp only [go_sem]))
  refine run_loop (powR_loop _ hy h0 h (powP x n y) n _ _ _ _ ⟨restP (1, 0) y, restP x y, rest_bd hny hy, rest_bd hny hy, hn, rfl, ?_, ?_, ?_, ?_, ?_, rfl, rfl, rfl⟩) ?_
  · simp (maxSteps := 9999999) only [go_sem, argR]
  · simp (maxSteps := 9999999) only [go_sem]
  · simp (maxSteps := 9999999) only [go_sem]
  · simp (maxSteps := 9999999) only [go_sem]
  · simp (maxSteps := 9999999) only [go_sem]
  rintro ex ρ' ms' h1 d1 ⟨rfl, rfl, rfl, k6, k7, b, rfl⟩
  repeat (first | apply run_seq | apply run_block | apply end_seq | apply end_blk_hit | apply end_blk_miss rfl | apply end_blk | apply end_seq_exit | apply end_seq_ret | apply end_blk_ret | apply run_skip | apply run_ret | apply run_exit | (apply run_region (by decide); (simp (maxSteps := 9999999) only [go_sem, k6, k7]; rfl)) | (apply run_regionN (by decide); (simp (maxSteps := 9999999) only [go_sem, k6, k7]; rfl)) | (refine run_cond_t ?_ ?_; · simp only [go_sem]) | (refine run_cond_f ?_ ?_; · simp only [go_sem]))
  exact end_nil (q_free [agV (powP x n y)] (by simp (maxSteps := 9999999) only [go_sem, k6]) rfl rfl rfl (fun _ => rfl) (take_app _ _) rfl)
end Go.Proofs.YtdmfhdnpakgkpaaDoor.Sh

