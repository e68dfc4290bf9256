/- Fractions in lowest terms, and the greatest common divisor of the document. -/
import Derived.Test.YtecncmmkghmojaaWa
set_option linter.all false
namespace Go.Proofs.Ytecncmmkghmojaa.Sh
open Go
set_option maxRecDepth 100000
set_option linter.unusedSimpArgs false
set_option linter.unusedVariables false

theorem gcdL_two (a b : Int) : gcdL [a, b] = Int.gcd a b := by
  simp [gcdL, Int.gcd]
theorem tdiv_le (a g : Int) (m : Nat) (h : a.natAbs ≤ m) : (a.tdiv g).natAbs ≤ m := by
  rw [Int.natAbs_tdiv]
  exact Nat.le_trans (Nat.div_le_self _ _) h
theorem wrap_abs {a : Int} (h : a.natAbs ≤ 9223372036854775807) : IntKind.i64.wrap a = a := wrap64 (by omega) (by omega)

/-- fraction.lowest -/
theorem lowest (a b : Int) (h : SHeap) (ha : a.natAbs ≤ 9223372036854775807) (hb : b.natAbs ≤ 9223372036854775807) (hg : Int.gcd a b ≠ 0) :
    M.call 65 [.agg #[.int .i64 a, .int .i64 b]] h = some (.agg #[.int .i64 (a.tdiv (Int.gcd a b)), .int .i64 (b.tdiv (Int.gcd a b))], h, []) := by
  refine call_run sf65 rfl rfl rfl ?_
  unfold sf65
  have e1 : M.call 102 [.slice (some ⟨h.length + 2, 0, none⟩) 2 2] (h ++ [.cells [.int .i64 a, .int .i64 b] 82 true 0 [], .cells [.int .i64 0, .int .i64 0] 82 true 0 [], .cells [.int .i64 a, .int .i64 b] 2 true 0 []]) = some (.int .i64 (Int.gcd a b), (h ++ [.cells [.int .i64 a, .int .i64 b] 82 true 0 [], .cells [.int .i64 0, .int .i64 0] 82 true 0 [], .cells [.int .i64 a, .int .i64 b] 2 true 0 []]), []) := by
    have := div64 (h.length + 2) 2 [a, b] (h ++ [.cells [.int .i64 a, .int .i64 b] 82 true 0 [], .cells [.int .i64 0, .int .i64 0] 82 true 0 [], .cells [.int .i64 a, .int .i64 b] 2 true 0 []]) ⟨2, true, 0, [], by rw [app_get]; rfl, rfl⟩ (by simp) (by simp; omega)
    rw [gcdL_two] at this
    exact this
  have hg' : ((Int.gcd a b : Nat) : Int) ≠ 0 := by omega
  have w1 := wrap_abs (tdiv_le a (Int.gcd a b) _ ha)
  have w2 := wrap_abs (tdiv_le b (Int.gcd a b) _ hb)
  repeat (first | apply run_seq | apply run_block | apply end_seq | apply end_blk_hit | apply end_blk_miss rfl | apply end_blk | apply end_seq_exit | apply end_seq_ret | apply end_blk_ret | apply run_skip | apply run_ret | apply run_exit | (apply run_region (by decide); (simp (config := {maxSteps := 60000}) only [go_sem, ↓reduceIte, Nat.reduceEqDiff, Nat.reduceAdd, Nat.reduceMul, Nat.reduceLT, Int.reduceLE, Int.reduceLT, Int.reduceEq, Int.reduceToNat, Int.reduceNeg, Int.reduceAdd, Int.reduceSub, Int.reduceMul, Nat.reduceBEq, Nat.reduceLeDiff, Nat.reduceSub, Nat.reduceBEq, argR, e1, hg', ne_eq, not_false_eq_true, w1, w2]; rfl)) | (refine run_cond_t ?_ ?_; · simp (config := {maxSteps := 60000}) only [go_sem, ↓reduceIte, Nat.reduceEqDiff, Nat.reduceAdd, Nat.reduceMul, Nat.reduceLT, Int.reduceLE, Int.reduceLT, Int.reduceEq, Int.reduceToNat, Int.reduceNeg, Int.reduceAdd, Int.reduceSub, Int.reduceMul, Nat.reduceBEq, Nat.reduceLeDiff, Nat.reduceSub, Nat.reduceBEq, argR, e1, hg', ne_eq, not_false_eq_true, w1, w2]) | (refine run_cond_f ?_ ?_; · simp (config := {maxSteps := 60000}) only [go_sem, ↓reduceIte, Nat.reduceEqDiff, Nat.reduceAdd, Nat.reduceMul, Nat.reduceLT, Int.reduceLE, Int.reduceLT, Int.reduceEq, Int.reduceToNat, Int.reduceNeg, Int.reduceAdd, Int.reduceSub, Int.reduceMul, Nat.reduceBEq, Nat.reduceLeDiff, Nat.reduceSub, Nat.reduceBEq, argR, e1, hg', ne_eq, not_false_eq_true, w1, w2]))
  exact end_nil (q_cell [.int .i64 (a.tdiv (Int.gcd a b)), .int .i64 (b.tdiv (Int.gcd a b))] (by simp (config := {maxSteps := 60000}) only [go_sem, ↓reduceIte, Nat.reduceEqDiff, Nat.reduceAdd, Nat.reduceMul, Nat.reduceLT, Int.reduceLE, Int.reduceLT, Int.reduceEq, Int.reduceToNat, Int.reduceNeg, Int.reduceAdd, Int.reduceSub, Int.reduceMul, Nat.reduceBEq, Nat.reduceLeDiff, Nat.reduceSub, Nat.reduceBEq]) rfl ⟨_, rfl⟩ (take_app _ _))

theorem gcd_in (cx : Cx) (g : Nat) (h : SHeap) (d : List Nat) : ∀ k ρ ms h' d', (∃ a x : Int, ρ 0 = .int .i64 a ∧ ρ 1 = .int .i64 x ∧ 0 ≤ a ∧ 0 ≤ x ∧ Int.gcd a x = g ∧ x.natAbs = k ∧ ms = [] ∧ h' = h ∧ d' = d) →
    LoopW M cx 5 sf64L0 ρ ms h' d' (fun ex ρ' ms' h' d' => ex = .exit 0 ∧ ρ' 0 = .int .i64 g ∧ ms' = [] ∧ h' = h ∧ d' = d) := by
  refine loop_run _ ?_
  rintro k ρ ms h' d' ⟨a, x, h3, h5, ha, hx0, hg, hk, rfl, rfl, rfl⟩
  unfold sf64L0
  by_cases hx : x = 0
  · subst hx
    repeat (first | apply run_seq | apply run_block | apply end_seq | apply end_blk_hit | apply end_blk_miss rfl | apply end_blk | apply end_seq_exit | apply end_seq_ret | apply end_blk_ret | apply run_skip | apply run_ret | apply run_exit | (apply run_region (by decide); (simp (config := {maxSteps := 60000}) only [go_sem, ↓reduceIte, Nat.reduceEqDiff, Nat.reduceAdd, Nat.reduceMul, Nat.reduceLT, Int.reduceLE, Int.reduceLT, Int.reduceEq, Int.reduceToNat, Int.reduceNeg, Int.reduceAdd, Int.reduceSub, Int.reduceMul, Nat.reduceBEq, Nat.reduceLeDiff, Nat.reduceSub, Nat.reduceBEq, h3, h5]; rfl)) | (refine run_cond_t ?_ ?_; · simp (config := {maxSteps := 60000}) only [go_sem, ↓reduceIte, Nat.reduceEqDiff, Nat.reduceAdd, Nat.reduceMul, Nat.reduceLT, Int.reduceLE, Int.reduceLT, Int.reduceEq, Int.reduceToNat, Int.reduceNeg, Int.reduceAdd, Int.reduceSub, Int.reduceMul, Nat.reduceBEq, Nat.reduceLeDiff, Nat.reduceSub, Nat.reduceBEq, h3, h5]) | (refine run_cond_f ?_ ?_; · simp (config := {maxSteps := 60000}) only [go_sem, ↓reduceIte, Nat.reduceEqDiff, Nat.reduceAdd, Nat.reduceMul, Nat.reduceLT, Int.reduceLE, Int.reduceLT, Int.reduceEq, Int.reduceToNat, Int.reduceNeg, Int.reduceAdd, Int.reduceSub, Int.reduceMul, Nat.reduceBEq, Nat.reduceLeDiff, Nat.reduceSub, Nat.reduceBEq, h3, h5]))
    refine end_nil ⟨rfl, ?_, rfl, rfl, rfl⟩
    simp (config := {maxSteps := 60000}) only [go_sem, ↓reduceIte, Nat.reduceEqDiff, Nat.reduceAdd, Nat.reduceMul, Nat.reduceLT, Int.reduceLE, Int.reduceLT, Int.reduceEq, Int.reduceToNat, Int.reduceNeg, Int.reduceAdd, Int.reduceSub, Int.reduceMul, Nat.reduceBEq, Nat.reduceLeDiff, Nat.reduceSub, Nat.reduceBEq, h3]
    rw [← hg]; simp; omega
  · have hp : 0 < x := by omega
    repeat (first | apply run_seq | apply run_block | apply end_seq | apply end_blk_hit | apply end_blk_miss rfl | apply end_blk | apply end_seq_exit | apply end_seq_ret | apply end_blk_ret | apply run_skip | apply run_ret | apply run_exit | (apply run_region (by decide); (simp (config := {maxSteps := 60000}) only [go_sem, ↓reduceIte, Nat.reduceEqDiff, Nat.reduceAdd, Nat.reduceMul, Nat.reduceLT, Int.reduceLE, Int.reduceLT, Int.reduceEq, Int.reduceToNat, Int.reduceNeg, Int.reduceAdd, Int.reduceSub, Int.reduceMul, Nat.reduceBEq, Nat.reduceLeDiff, Nat.reduceSub, Nat.reduceBEq, h3, h5, hx, ne_eq, not_false_eq_true, hp]; rfl)) | (refine run_cond_t ?_ ?_; · simp (config := {maxSteps := 60000}) only [go_sem, ↓reduceIte, Nat.reduceEqDiff, Nat.reduceAdd, Nat.reduceMul, Nat.reduceLT, Int.reduceLE, Int.reduceLT, Int.reduceEq, Int.reduceToNat, Int.reduceNeg, Int.reduceAdd, Int.reduceSub, Int.reduceMul, Nat.reduceBEq, Nat.reduceLeDiff, Nat.reduceSub, Nat.reduceBEq, h3, h5, hx, ne_eq, not_false_eq_true, hp]) | (refine run_cond_f ?_ ?_; · simp (config := {maxSteps := 60000}) only [go_sem, ↓reduceIte, Nat.reduceEqDiff, Nat.reduceAdd, Nat.reduceMul, Nat.reduceLT, Int.reduceLE, Int.reduceLT, Int.reduceEq, Int.reduceToNat, Int.reduceNeg, Int.reduceAdd, Int.reduceSub, Int.reduceMul, Nat.reduceBEq, Nat.reduceLeDiff, Nat.reduceSub, Nat.reduceBEq, h3, h5, hx, ne_eq, not_false_eq_true, hp]))
    refine end_nil ⟨(a.tmod x).natAbs, by rw [← hk]; exact tmod_lt a x hx, x, a.tmod x, ?_, ?_, hx0, Int.tmod_nonneg _ ha, by rw [gcd_step, hg], rfl, rfl, rfl, rfl⟩
    · simp (config := {maxSteps := 60000}) only [go_sem, ↓reduceIte, Nat.reduceEqDiff, Nat.reduceAdd, Nat.reduceMul, Nat.reduceLT, Int.reduceLE, Int.reduceLT, Int.reduceEq, Int.reduceToNat, Int.reduceNeg, Int.reduceAdd, Int.reduceSub, Int.reduceMul, Nat.reduceBEq, Nat.reduceLeDiff, Nat.reduceSub, Nat.reduceBEq, h3]
    · simp (config := {maxSteps := 60000}) only [go_sem, ↓reduceIte, Nat.reduceEqDiff, Nat.reduceAdd, Nat.reduceMul, Nat.reduceLT, Int.reduceLE, Int.reduceLT, Int.reduceEq, Int.reduceToNat, Int.reduceNeg, Int.reduceAdd, Int.reduceSub, Int.reduceMul, Nat.reduceBEq, Nat.reduceLeDiff, Nat.reduceSub, Nat.reduceBEq, h5]

/-- gcd of the document -/
theorem gcdR (a b : Int) (h : SHeap) (ha : a.natAbs ≤ 9223372036854775807) (hb : b.natAbs ≤ 9223372036854775807) :
    M.call 64 [.int .i64 a, .int .i64 b] h = some (.int .i64 (Int.gcd a b), h, []) := by
  refine call_run sf64 rfl rfl rfl ?_
  unfold sf64
  have wa := wrap_neg ha
  have wb := wrap_neg hb
  have ma := max_abs a
  have mb := max_abs b
  repeat (first | apply run_seq | apply run_block | apply end_seq | apply end_blk_hit | apply end_blk_miss rfl | apply end_blk | apply end_seq_exit | apply end_seq_ret | apply end_blk_ret | apply run_skip | apply run_ret | apply run_exit | (apply run_region (by decide); (simp (config := {maxSteps := 60000}) only [go_sem, ↓reduceIte, Nat.reduceEqDiff, Nat.reduceAdd, Nat.reduceMul, Nat.reduceLT, Int.reduceLE, Int.reduceLT, Int.reduceEq, Int.reduceToNat, Int.reduceNeg, Int.reduceAdd, Int.reduceSub, Int.reduceMul, Nat.reduceBEq, Nat.reduceLeDiff, Nat.reduceSub, Nat.reduceBEq, argR, wa, wb, ma, mb]; rfl)) | (refine run_cond_t ?_ ?_; · simp (config := {maxSteps := 60000}) only [go_sem, ↓reduceIte, Nat.reduceEqDiff, Nat.reduceAdd, Nat.reduceMul, Nat.reduceLT, Int.reduceLE, Int.reduceLT, Int.reduceEq, Int.reduceToNat, Int.reduceNeg, Int.reduceAdd, Int.reduceSub, Int.reduceMul, Nat.reduceBEq, Nat.reduceLeDiff, Nat.reduceSub, Nat.reduceBEq, argR, wa, wb, ma, mb]) | (refine run_cond_f ?_ ?_; · simp (config := {maxSteps := 60000}) only [go_sem, ↓reduceIte, Nat.reduceEqDiff, Nat.reduceAdd, Nat.reduceMul, Nat.reduceLT, Int.reduceLE, Int.reduceLT, Int.reduceEq, Int.reduceToNat, Int.reduceNeg, Int.reduceAdd, Int.reduceSub, Int.reduceMul, Nat.reduceBEq, Nat.reduceLeDiff, Nat.reduceSub, Nat.reduceBEq, argR, wa, wb, ma, mb]))
  refine run_loop (gcd_in _ (Int.gcd a b) h [] b.natAbs _ _ _ _ ⟨a.natAbs, b.natAbs, ?_, ?_, by omega, by omega, by simp [Int.gcd], by simp, rfl, rfl, rfl⟩) ?_
  · simp (config := {maxSteps := 60000}) only [go_sem, ↓reduceIte, Nat.reduceEqDiff, Nat.reduceAdd, Nat.reduceMul, Nat.reduceLT, Int.reduceLE, Int.reduceLT, Int.reduceEq, Int.reduceToNat, Int.reduceNeg, Int.reduceAdd, Int.reduceSub, Int.reduceMul, Nat.reduceBEq, Nat.reduceLeDiff, Nat.reduceSub, Nat.reduceBEq, ma]
  · simp (config := {maxSteps := 60000}) only [go_sem, ↓reduceIte, Nat.reduceEqDiff, Nat.reduceAdd, Nat.reduceMul, Nat.reduceLT, Int.reduceLE, Int.reduceLT, Int.reduceEq, Int.reduceToNat, Int.reduceNeg, Int.reduceAdd, Int.reduceSub, Int.reduceMul, Nat.reduceBEq, Nat.reduceLeDiff, Nat.reduceSub, Nat.reduceBEq, mb]
  · rintro ex ρ' ms' h1 d1 ⟨rfl, k0, rfl, rfl, rfl⟩
    repeat (first | apply run_seq | apply run_block | apply end_seq | apply end_blk_hit | apply end_blk_miss rfl | apply end_blk | apply end_seq_exit | apply end_seq_ret | apply end_blk_ret | apply run_skip | apply run_ret | apply run_exit | (apply run_region (by decide); (simp (config := {maxSteps := 60000}) only [go_sem, ↓reduceIte, Nat.reduceEqDiff, Nat.reduceAdd, Nat.reduceMul, Nat.reduceLT, Int.reduceLE, Int.reduceLT, Int.reduceEq, Int.reduceToNat, Int.reduceNeg, Int.reduceAdd, Int.reduceSub, Int.reduceMul, Nat.reduceBEq, Nat.reduceLeDiff, Nat.reduceSub, Nat.reduceBEq, k0]; rfl)) | (refine run_cond_t ?_ ?_; · simp (config := {maxSteps := 60000}) only [go_sem, ↓reduceIte, Nat.reduceEqDiff, Nat.reduceAdd, Nat.reduceMul, Nat.reduceLT, Int.reduceLE, Int.reduceLT, Int.reduceEq, Int.reduceToNat, Int.reduceNeg, Int.reduceAdd, Int.reduceSub, Int.reduceMul, Nat.reduceBEq, Nat.reduceLeDiff, Nat.reduceSub, Nat.reduceBEq, k0]) | (refine run_cond_f ?_ ?_; · simp (config := {maxSteps := 60000}) only [go_sem, ↓reduceIte, Nat.reduceEqDiff, Nat.reduceAdd, Nat.reduceMul, Nat.reduceLT, Int.reduceLE, Int.reduceLT, Int.reduceEq, Int.reduceToNat, Int.reduceNeg, Int.reduceAdd, Int.reduceSub, Int.reduceMul, Nat.reduceBEq, Nat.reduceLeDiff, Nat.reduceSub, Nat.reduceBEq, k0]))
    exact end_nil (q_ret1 _ (by simp (config := {maxSteps := 60000}) only [go_sem, ↓reduceIte, Nat.reduceEqDiff, Nat.reduceAdd, Nat.reduceMul, Nat.reduceLT, Int.reduceLE, Int.reduceLT, Int.reduceEq, Int.reduceToNat, Int.reduceNeg, Int.reduceAdd, Int.reduceSub, Int.reduceMul, Nat.reduceBEq, Nat.reduceLeDiff, Nat.reduceSub, Nat.reduceBEq]) rfl (take_self _))
end Go.Proofs.Ytecncmmkghmojaa.Sh
