/- Lean of the document, and comparing leans. -/
import Derived.Test.YtecncmmkghmojaaXs
set_option linter.all false
namespace Go.Proofs.Ytecncmmkghmojaa.Sh
open Go Geo
set_option maxRecDepth 100000

/-- Less of the document: which of two fractions is less -/
theorem less31 : ∀ (n : Nat) (a b c d : Int), b.natAbs + d.natAbs ≤ n → 0 ≤ a → 0 < b → 0 ≤ c → 0 < d → a ≤ 9223372036854775807 → b ≤ 9223372036854775807 → c ≤ 9223372036854775807 → d ≤ 9223372036854775807 →
    ∀ h, M.call 31 [.agg #[.int .i64 a, .int .i64 b], .agg #[.int .i64 c, .int .i64 d]] h = some (.bool (decide (a * d < c * b)), h, [])
  | 0, a, b, c, d, hn, _, hb, _, _, _, _, _, _ => by omega
  | n + 1, a, b, c, d, hn, ha, hb, hc, hd, la, lb, lc, ld => by
    intro h
    have hb0 : ¬ (b = 0) := by omega
    have hd0 : ¬ (d = 0) := by omega
    have w1 : IntKind.i64.wrap (a.tdiv b) = a.tdiv b := wrap_abs (tdiv_le _ _ _ (by omega))
    have w2 : IntKind.i64.wrap (c.tdiv d) = c.tdiv d := wrap_abs (tdiv_le _ _ _ (by omega))
    have ea : b * (a.tdiv b) + a.tmod b = a := Int.mul_tdiv_add_tmod a b
    have ec : d * (c.tdiv d) + c.tmod d = c := Int.mul_tdiv_add_tmod c d
    have pa := Int.tmod_nonneg b ha
    have pc := Int.tmod_nonneg d hc
    have qa := Int.tmod_lt_of_pos a hb
    have qc := Int.tmod_lt_of_pos c hd
    have ih : 0 < a.tmod b → 0 < c.tmod d → ∀ h, M.call 31 [.agg #[.int .i64 d, .int .i64 (c.tmod d)], .agg #[.int .i64 b, .int .i64 (a.tmod b)]] h = some (.bool (decide (d * a.tmod b < b * c.tmod d)), h, []) :=
      fun h1 h2 => less31 n d (c.tmod d) b (a.tmod b) (by omega) (by omega) h2 (by omega) h1 ld (by omega) lb (by omega)
    generalize hA : a.tdiv b = A at *
    generalize hC : c.tdiv d = C at *
    generalize hP : a.tmod b = p at *
    generalize hQ : c.tmod d = q at *
    have key : a * d < c * b ↔ (A < C ∨ (A = C ∧ p * d < q * b)) := by
      have f1 : a * d = b * d * A + p * d := by rw [← ea]; grind
      have f2 : c * b = b * d * C + q * b := by rw [← ec]; grind
      have f3 : p * d < b * d := Int.mul_lt_mul_of_pos_right qa hd
      have f4 : q * b < b * d := by rw [Int.mul_comm b d]; exact Int.mul_lt_mul_of_pos_right qc hb
      have f5 : 0 ≤ p * d := Int.mul_nonneg pa (by omega)
      have f6 : 0 ≤ q * b := Int.mul_nonneg pc (by omega)
      have f7 : 0 < b * d := Int.mul_pos hb hd
      rw [f1, f2]
      rcases Int.lt_trichotomy A C with hAC | hAC | hAC
      · have f8 : b * d * (A + 1) ≤ b * d * C := Int.mul_le_mul_of_nonneg_left (by omega) (by omega)
        rw [Int.mul_add, Int.mul_one] at f8
        constructor
        · intro _; exact .inl hAC
        · intro _; omega
      · subst hAC
        constructor
        · intro k; exact .inr ⟨rfl, by omega⟩
        · rintro (k | ⟨_, k⟩) <;> omega
      · have f8 : b * d * (C + 1) ≤ b * d * A := Int.mul_le_mul_of_nonneg_left (by omega) (by omega)
        rw [Int.mul_add, Int.mul_one] at f8
        constructor
        · intro k; omega
        · rintro (k | ⟨k, _⟩) <;> omega
    refine call_run sf31 rfl rfl rfl ?_
    unfold sf31
    by_cases hAC : A = C
    · subst hAC
      have key' : decide (a * d < c * b) = decide (p * d < q * b) := by
        by_cases k : p * d < q * b
        · rw [decide_eq_true k, decide_eq_true (key.2 (.inr ⟨rfl, k⟩))]
        · rw [decide_eq_false k, decide_eq_false (fun z => by rcases key.1 z with z | ⟨_, z⟩ <;> omega)]
      rw [key']
      by_cases hp : p = 0
      · have e : decide (p * d < q * b) = decide (p < q) := by
          subst hp
          rw [Int.zero_mul]
          by_cases hq : 0 < q
          · rw [decide_eq_true hq, decide_eq_true (Int.mul_pos hq hb)]
          · have : q = 0 := by omega
            subst this; simp
        rw [e]
        repeat (first | apply run_seq | apply run_block | apply end_seq | apply end_blk_hit | apply end_blk_miss rfl | apply end_blk | apply end_seq_exit | apply end_seq_ret | apply end_blk_ret | apply run_skip | apply run_ret | apply run_exit | (apply run_region (by decide); (simp only [go_sem, ↓reduceIte, Int.reduceAdd, Int.reduceEq, Int.reduceLE, Int.reduceLT, Int.reduceMul, Int.reduceNeg, Int.reduceSub, Int.reduceToNat, Nat.reduceAdd, Nat.reduceBEq, Nat.reduceEqDiff, Nat.reduceLT, Nat.reduceLeDiff, Nat.reduceMul, Nat.reduceSub, argR, hb0, hd0, hA, hC, hP, hQ, w1, w2, hp]; rfl)) | (refine run_cond_t ?_ ?_; · simp only [go_sem, ↓reduceIte, Nat.reduceEqDiff]) | (refine run_cond_f ?_ ?_; · simp only [go_sem, ↓reduceIte, Nat.reduceEqDiff]))
        exact end_nil (q_ret1 _ (by simp only [go_sem, ↓reduceIte, Int.reduceAdd, Int.reduceEq, Int.reduceLE, Int.reduceLT, Int.reduceMul, Int.reduceNeg, Int.reduceSub, Int.reduceToNat, Nat.reduceAdd, Nat.reduceBEq, Nat.reduceEqDiff, Nat.reduceLT, Nat.reduceLeDiff, Nat.reduceMul, Nat.reduceSub, hp]) rfl (take_app _ _))
      · by_cases hq : q = 0
        · have e : decide (p * d < q * b) = decide (p < q) := by
            subst hq
            rw [Int.zero_mul, decide_eq_false (show ¬ p * d < 0 from by have := Int.mul_nonneg pa (show 0 ≤ d by omega); omega), decide_eq_false (by omega)]
          rw [e]
          repeat (first | apply run_seq | apply run_block | apply end_seq | apply end_blk_hit | apply end_blk_miss rfl | apply end_blk | apply end_seq_exit | apply end_seq_ret | apply end_blk_ret | apply run_skip | apply run_ret | apply run_exit | (apply run_region (by decide); (simp only [go_sem, ↓reduceIte, Int.reduceAdd, Int.reduceEq, Int.reduceLE, Int.reduceLT, Int.reduceMul, Int.reduceNeg, Int.reduceSub, Int.reduceToNat, Nat.reduceAdd, Nat.reduceBEq, Nat.reduceEqDiff, Nat.reduceLT, Nat.reduceLeDiff, Nat.reduceMul, Nat.reduceSub, argR, hb0, hd0, hA, hC, hP, hQ, w1, w2, hp, hq]; rfl)) | (refine run_cond_t ?_ ?_; · simp only [go_sem, ↓reduceIte, Nat.reduceEqDiff]) | (refine run_cond_f ?_ ?_; · simp only [go_sem, ↓reduceIte, Nat.reduceEqDiff]))
          exact end_nil (q_ret1 _ (by simp only [go_sem, ↓reduceIte, Int.reduceAdd, Int.reduceEq, Int.reduceLE, Int.reduceLT, Int.reduceMul, Int.reduceNeg, Int.reduceSub, Int.reduceToNat, Nat.reduceAdd, Nat.reduceBEq, Nat.reduceEqDiff, Nat.reduceLT, Nat.reduceLeDiff, Nat.reduceMul, Nat.reduceSub, hp, hq]) rfl (take_app _ _))
        · have c31 := ih (by omega) (by omega)
          rw [Int.mul_comm d p, Int.mul_comm b q] at c31
          repeat (first | apply run_seq | apply run_block | apply end_seq | apply end_blk_hit | apply end_blk_miss rfl | apply end_blk | apply end_seq_exit | apply end_seq_ret | apply end_blk_ret | apply run_skip | apply run_ret | apply run_exit | (apply run_region (by decide); (simp only [go_sem, ↓reduceIte, Int.reduceAdd, Int.reduceEq, Int.reduceLE, Int.reduceLT, Int.reduceMul, Int.reduceNeg, Int.reduceSub, Int.reduceToNat, Nat.reduceAdd, Nat.reduceBEq, Nat.reduceEqDiff, Nat.reduceLT, Nat.reduceLeDiff, Nat.reduceMul, Nat.reduceSub, argR, hb0, hd0, hA, hC, hP, hQ, w1, w2, hp, hq, c31]; rfl)) | (refine run_cond_t ?_ ?_; · simp only [go_sem, ↓reduceIte, Nat.reduceEqDiff]) | (refine run_cond_f ?_ ?_; · simp only [go_sem, ↓reduceIte, Nat.reduceEqDiff]))
          exact end_nil (q_ret1 _ (by simp only [go_sem, ↓reduceIte, Int.reduceAdd, Int.reduceEq, Int.reduceLE, Int.reduceLT, Int.reduceMul, Int.reduceNeg, Int.reduceSub, Int.reduceToNat, Nat.reduceAdd, Nat.reduceBEq, Nat.reduceEqDiff, Nat.reduceLT, Nat.reduceLeDiff, Nat.reduceMul, Nat.reduceSub]) rfl (take_app _ _))
    · have key' : decide (a * d < c * b) = decide (A < C) := by
        by_cases k : A < C
        · rw [decide_eq_true k, decide_eq_true (key.2 (.inl k))]
        · rw [decide_eq_false k, decide_eq_false (fun z => by rcases key.1 z with z | ⟨z, _⟩ <;> omega)]
      rw [key']
      repeat (first | apply run_seq | apply run_block | apply end_seq | apply end_blk_hit | apply end_blk_miss rfl | apply end_blk | apply end_seq_exit | apply end_seq_ret | apply end_blk_ret | apply run_skip | apply run_ret | apply run_exit | (apply run_region (by decide); (simp only [go_sem, ↓reduceIte, Int.reduceAdd, Int.reduceEq, Int.reduceLE, Int.reduceLT, Int.reduceMul, Int.reduceNeg, Int.reduceSub, Int.reduceToNat, Nat.reduceAdd, Nat.reduceBEq, Nat.reduceEqDiff, Nat.reduceLT, Nat.reduceLeDiff, Nat.reduceMul, Nat.reduceSub, argR, hb0, hd0, hA, hC, hP, hQ, w1, w2, hAC]; rfl)) | (refine run_cond_t ?_ ?_; · simp only [go_sem, ↓reduceIte, Nat.reduceEqDiff]) | (refine run_cond_f ?_ ?_; · simp only [go_sem, ↓reduceIte, Nat.reduceEqDiff]))
      exact end_nil (q_ret1 _ (by simp only [go_sem, ↓reduceIte, Int.reduceAdd, Int.reduceEq, Int.reduceLE, Int.reduceLT, Int.reduceMul, Int.reduceNeg, Int.reduceSub, Int.reduceToNat, Nat.reduceAdd, Nat.reduceBEq, Nat.reduceEqDiff, Nat.reduceLT, Nat.reduceLeDiff, Nat.reduceMul, Nat.reduceSub]) rfl (take_app _ _))
end Go.Proofs.Ytecncmmkghmojaa.Sh

