/- Harmonic of the document, and the statement HullHarmonic on the shadow machine. -/
import Derived.Test.YtecncmmkghmojaaWc
set_option linter.all false
namespace Go.Proofs.Ytecncmmkghmojaa.Sh
open Go
set_option maxRecDepth 100000
set_option linter.unusedSimpArgs false
set_option linter.unusedVariables false

theorem harmR_loop (cx : Cx) (h : SHeap) (n : Nat) (hn : n ≤ 30) : ∀ k ρ ms h' d', (∃ i : Nat, i + k = n ∧ ρ 0 = .int .i64 n ∧ ρ 5 = .int .i64 (i + 1 : Nat) ∧ ρ 2 = .pointer (some ⟨h.length, 0, none⟩) ∧ ρ 3 = .int .i64 (rs i).1 ∧ ρ 4 = .int .i64 (rs i).2 ∧
    ms = [] ∧ h' = h ++ [.cells [.int .i64 0, .int .i64 0] 34 true 0 []] ∧ d' = []) →
    LoopW M cx 6 sf25L0 ρ ms h' d' (fun ex ρ' ms' h' d' => ex = .exit 0 ∧ ρ' 2 = .pointer (some ⟨h.length, 0, none⟩) ∧ ρ' 3 = .int .i64 (rs n).1 ∧ ρ' 4 = .int .i64 (rs n).2 ∧
      ms' = [] ∧ h' = h ++ [.cells [.int .i64 0, .int .i64 0] 34 true 0 []] ∧ d' = []) := by
  refine loop_run _ ?_
  rintro k ρ ms h' d' ⟨i, hi, h0, h5, h2, h3, h4, rfl, rfl, rfl⟩
  unfold sf25L0
  have ew : IntKind.i64.wrap (((i + 1 : Nat) : Int) + 1) = ((i + 1 + 1 : Nat) : Int) := by rw [wrap64 (by omega) (by omega)]; rfl
  by_cases hk : k = 0
  · have e1 : ¬ (((i + 1 : Nat) : Int) ≤ n) := by omega
    repeat (first | apply run_seq | apply run_block | apply end_seq | apply end_blk_hit | apply end_blk_miss rfl | apply end_blk | apply end_seq_exit | apply end_seq_ret | apply end_blk_ret | apply run_skip | apply run_ret | apply run_exit | (apply run_region (by decide); (simp (config := {maxSteps := 60000}) only [go_sem, ↓reduceIte, Nat.reduceEqDiff, Nat.reduceAdd, Nat.reduceMul, Nat.reduceLT, Int.reduceLE, Int.reduceLT, Int.reduceEq, Int.reduceToNat, Int.reduceNeg, Int.reduceAdd, Int.reduceSub, Int.reduceMul, Nat.reduceBEq, Nat.reduceLeDiff, Nat.reduceSub, Nat.reduceBEq, h0, h2, h3, h4, h5, e1]; rfl)) | (refine run_cond_t ?_ ?_; · simp (config := {maxSteps := 60000}) only [go_sem, ↓reduceIte, Nat.reduceEqDiff, Nat.reduceAdd, Nat.reduceMul, Nat.reduceLT, Int.reduceLE, Int.reduceLT, Int.reduceEq, Int.reduceToNat, Int.reduceNeg, Int.reduceAdd, Int.reduceSub, Int.reduceMul, Nat.reduceBEq, Nat.reduceLeDiff, Nat.reduceSub, Nat.reduceBEq, h0, h2, h3, h4, h5, e1]) | (refine run_cond_f ?_ ?_; · simp (config := {maxSteps := 60000}) only [go_sem, ↓reduceIte, Nat.reduceEqDiff, Nat.reduceAdd, Nat.reduceMul, Nat.reduceLT, Int.reduceLE, Int.reduceLT, Int.reduceEq, Int.reduceToNat, Int.reduceNeg, Int.reduceAdd, Int.reduceSub, Int.reduceMul, Nat.reduceBEq, Nat.reduceLeDiff, Nat.reduceSub, Nat.reduceBEq, h0, h2, h3, h4, h5, e1]))
    have e : i = n := by omega
    subst e
    refine end_nil ⟨rfl, ?_, ?_, ?_, rfl, rfl, rfl⟩
    · simp (config := {maxSteps := 60000}) only [go_sem, ↓reduceIte, Nat.reduceEqDiff, Nat.reduceAdd, Nat.reduceMul, Nat.reduceLT, Int.reduceLE, Int.reduceLT, Int.reduceEq, Int.reduceToNat, Int.reduceNeg, Int.reduceAdd, Int.reduceSub, Int.reduceMul, Nat.reduceBEq, Nat.reduceLeDiff, Nat.reduceSub, Nat.reduceBEq, h2]
    · simp (config := {maxSteps := 60000}) only [go_sem, ↓reduceIte, Nat.reduceEqDiff, Nat.reduceAdd, Nat.reduceMul, Nat.reduceLT, Int.reduceLE, Int.reduceLT, Int.reduceEq, Int.reduceToNat, Int.reduceNeg, Int.reduceAdd, Int.reduceSub, Int.reduceMul, Nat.reduceBEq, Nat.reduceLeDiff, Nat.reduceSub, Nat.reduceBEq, h3]
    · simp (config := {maxSteps := 60000}) only [go_sem, ↓reduceIte, Nat.reduceEqDiff, Nat.reduceAdd, Nat.reduceMul, Nat.reduceLT, Int.reduceLE, Int.reduceLT, Int.reduceEq, Int.reduceToNat, Int.reduceNeg, Int.reduceAdd, Int.reduceSub, Int.reduceMul, Nat.reduceBEq, Nat.reduceLeDiff, Nat.reduceSub, Nat.reduceBEq, h4]
  · have e1 : ((i + 1 : Nat) : Int) ≤ n := by omega
    have ok := okG_all i (by omega)
    simp only [okG, decide_eq_true_eq] at ok
    have hc : (i : Int) + 1 = ((i + 1 : Nat) : Int) := rfl
    rw [hc] at ok
    generalize hz : ((i + 1 : Nat) : Int) = z at *
    have zb : z.natAbs ≤ 9223372036854775807 := by omega
    generalize hg : ((Int.gcd (rs i).2 z : Nat) : Int) = g at *
    have hA : (rs (i + 1)) = (((rs i).1 * z.tdiv g + (rs i).2.tdiv g).tdiv (Int.gcd ((rs i).1 * z.tdiv g + (rs i).2.tdiv g) ((rs i).2.tdiv g * z)), ((rs i).2.tdiv g * z).tdiv (Int.gcd ((rs i).1 * z.tdiv g + (rs i).2.tdiv g) ((rs i).2.tdiv g * z))) := by
      show stepG (rs i) (i + 1) = _
      rw [hc, ← hg]
      rfl
    obtain ⟨b1, b2, b3, b4, b5⟩ := ok
    have t1 : (z.tdiv g).natAbs ≤ 9223372036854775807 := tdiv_le _ _ _ zb
    have t2 : ((rs i).2.tdiv g).natAbs ≤ 4611686018427387903 := tdiv_le _ _ _ b2
    have w1 := wrap_abs t1
    have w2 : IntKind.i64.wrap ((rs i).2.tdiv g) = (rs i).2.tdiv g := wrap_abs (by omega)
    have w3 : IntKind.i64.wrap ((rs i).1 * z.tdiv g) = (rs i).1 * z.tdiv g := wrap_abs (by omega)
    have w4 : IntKind.i64.wrap ((rs i).1 * z.tdiv g + (rs i).2.tdiv g) = (rs i).1 * z.tdiv g + (rs i).2.tdiv g := wrap_abs (by omega)
    have w5 : IntKind.i64.wrap ((rs i).2.tdiv g * z) = (rs i).2.tdiv g * z := wrap_abs b4
    have c1 := fun h => gcdR (rs i).2 z h (by omega) zb
    rw [hg] at c1
    have c2 := fun h => gcdR ((rs i).1 * z.tdiv g + (rs i).2.tdiv g) ((rs i).2.tdiv g * z) h (by omega) b4
    have ab : ((rs i).1 * z.tdiv g + (rs i).2.tdiv g).natAbs ≤ 9223372036854775807 := by omega
    generalize hAA : (rs i).1 * z.tdiv g + (rs i).2.tdiv g = A at *
    generalize hBB : (rs i).2.tdiv g * z = B at *
    have w6 := wrap_abs (tdiv_le A (Int.gcd A B) _ ab)
    have w7 := wrap_abs (tdiv_le B (Int.gcd A B) _ b4)
    repeat (first | apply run_seq | apply run_block | apply end_seq | apply end_blk_hit | apply end_blk_miss rfl | apply end_blk | apply end_seq_exit | apply end_seq_ret | apply end_blk_ret | apply run_skip | apply run_ret | apply run_exit | (apply run_region (by decide); (simp (config := {maxSteps := 60000}) only [go_sem, ↓reduceIte, Nat.reduceEqDiff, Nat.reduceAdd, Nat.reduceMul, Nat.reduceLT, Int.reduceLE, Int.reduceLT, Int.reduceEq, Int.reduceToNat, Int.reduceNeg, Int.reduceAdd, Int.reduceSub, Int.reduceMul, Nat.reduceBEq, Nat.reduceLeDiff, Nat.reduceSub, Nat.reduceBEq, h0, h2, h3, h4, h5, e1, c1, hAA, hBB, b1, w1, w2, w3, w4, w5, c2, b5, w6, w7, ew]; rfl)) | (refine run_cond_t ?_ ?_; · simp (config := {maxSteps := 60000}) only [go_sem, ↓reduceIte, Nat.reduceEqDiff, Nat.reduceAdd, Nat.reduceMul, Nat.reduceLT, Int.reduceLE, Int.reduceLT, Int.reduceEq, Int.reduceToNat, Int.reduceNeg, Int.reduceAdd, Int.reduceSub, Int.reduceMul, Nat.reduceBEq, Nat.reduceLeDiff, Nat.reduceSub, Nat.reduceBEq, h0, h2, h3, h4, h5, e1, c1, hAA, hBB, b1, w1, w2, w3, w4, w5, c2, b5, w6, w7, ew]) | (refine run_cond_f ?_ ?_; · simp (config := {maxSteps := 60000}) only [go_sem, ↓reduceIte, Nat.reduceEqDiff, Nat.reduceAdd, Nat.reduceMul, Nat.reduceLT, Int.reduceLE, Int.reduceLT, Int.reduceEq, Int.reduceToNat, Int.reduceNeg, Int.reduceAdd, Int.reduceSub, Int.reduceMul, Nat.reduceBEq, Nat.reduceLeDiff, Nat.reduceSub, Nat.reduceBEq, h0, h2, h3, h4, h5, e1, c1, hAA, hBB, b1, w1, w2, w3, w4, w5, c2, b5, w6, w7, ew]))
    refine end_nil ⟨k - 1, by omega, i + 1, by omega, ?_, ?_, ?_, ?_, ?_, rfl, rfl, rfl⟩
    · simp (config := {maxSteps := 60000}) only [go_sem, ↓reduceIte, Nat.reduceEqDiff, Nat.reduceAdd, Nat.reduceMul, Nat.reduceLT, Int.reduceLE, Int.reduceLT, Int.reduceEq, Int.reduceToNat, Int.reduceNeg, Int.reduceAdd, Int.reduceSub, Int.reduceMul, Nat.reduceBEq, Nat.reduceLeDiff, Nat.reduceSub, Nat.reduceBEq, h0]
    · simp (config := {maxSteps := 60000}) only [go_sem, ↓reduceIte, Nat.reduceEqDiff, Nat.reduceAdd, Nat.reduceMul, Nat.reduceLT, Int.reduceLE, Int.reduceLT, Int.reduceEq, Int.reduceToNat, Int.reduceNeg, Int.reduceAdd, Int.reduceSub, Int.reduceMul, Nat.reduceBEq, Nat.reduceLeDiff, Nat.reduceSub, Nat.reduceBEq, ew]
    · simp (config := {maxSteps := 60000}) only [go_sem, ↓reduceIte, Nat.reduceEqDiff, Nat.reduceAdd, Nat.reduceMul, Nat.reduceLT, Int.reduceLE, Int.reduceLT, Int.reduceEq, Int.reduceToNat, Int.reduceNeg, Int.reduceAdd, Int.reduceSub, Int.reduceMul, Nat.reduceBEq, Nat.reduceLeDiff, Nat.reduceSub, Nat.reduceBEq, h2]
    · simp (config := {maxSteps := 60000}) only [go_sem, ↓reduceIte, Nat.reduceEqDiff, Nat.reduceAdd, Nat.reduceMul, Nat.reduceLT, Int.reduceLE, Int.reduceLT, Int.reduceEq, Int.reduceToNat, Int.reduceNeg, Int.reduceAdd, Int.reduceSub, Int.reduceMul, Nat.reduceBEq, Nat.reduceLeDiff, Nat.reduceSub, Nat.reduceBEq, hA]
    · simp (config := {maxSteps := 60000}) only [go_sem, ↓reduceIte, Nat.reduceEqDiff, Nat.reduceAdd, Nat.reduceMul, Nat.reduceLT, Int.reduceLE, Int.reduceLT, Int.reduceEq, Int.reduceToNat, Int.reduceNeg, Int.reduceAdd, Int.reduceSub, Int.reduceMul, Nat.reduceBEq, Nat.reduceLeDiff, Nat.reduceSub, Nat.reduceBEq, hA]

/-- Harmonic of the document -/
theorem harmonicR (n : Nat) (h2 : n ≤ 30) (h : SHeap) : M.call 25 [.int .i64 n] h = some (.agg #[.int .i64 (rs n).1, .int .i64 (rs n).2], h, []) := by
  refine call_run sf25 rfl rfl rfl ?_
  unfold sf25
  repeat (first | apply run_seq | apply run_block | apply end_seq | apply end_blk_hit | apply end_blk_miss rfl | apply end_blk | apply end_seq_exit | apply end_seq_ret | apply end_blk_ret | apply run_skip | apply run_ret | apply run_exit | (apply run_region (by decide); (simp (config := {maxSteps := 60000}) only [go_sem, ↓reduceIte, Nat.reduceEqDiff, Nat.reduceAdd, Nat.reduceMul, Nat.reduceLT, Int.reduceLE, Int.reduceLT, Int.reduceEq, Int.reduceToNat, Int.reduceNeg, Int.reduceAdd, Int.reduceSub, Int.reduceMul, Nat.reduceBEq, Nat.reduceLeDiff, Nat.reduceSub, Nat.reduceBEq, argR]; rfl)) | (refine run_cond_t ?_ ?_; · simp (config := {maxSteps := 60000}) only [go_sem, ↓reduceIte, Nat.reduceEqDiff, Nat.reduceAdd, Nat.reduceMul, Nat.reduceLT, Int.reduceLE, Int.reduceLT, Int.reduceEq, Int.reduceToNat, Int.reduceNeg, Int.reduceAdd, Int.reduceSub, Int.reduceMul, Nat.reduceBEq, Nat.reduceLeDiff, Nat.reduceSub, Nat.reduceBEq, argR]) | (refine run_cond_f ?_ ?_; · simp (config := {maxSteps := 60000}) only [go_sem, ↓reduceIte, Nat.reduceEqDiff, Nat.reduceAdd, Nat.reduceMul, Nat.reduceLT, Int.reduceLE, Int.reduceLT, Int.reduceEq, Int.reduceToNat, Int.reduceNeg, Int.reduceAdd, Int.reduceSub, Int.reduceMul, Nat.reduceBEq, Nat.reduceLeDiff, Nat.reduceSub, Nat.reduceBEq, argR]))
  refine run_loop (harmR_loop _ h n h2 n _ _ _ _ ⟨0, by omega, ?_, ?_, ?_, ?_, ?_, rfl, ?_, rfl⟩) ?_
  · simp (config := {maxSteps := 60000}) only [go_sem, ↓reduceIte, Nat.reduceEqDiff, Nat.reduceAdd, Nat.reduceMul, Nat.reduceLT, Int.reduceLE, Int.reduceLT, Int.reduceEq, Int.reduceToNat, Int.reduceNeg, Int.reduceAdd, Int.reduceSub, Int.reduceMul, Nat.reduceBEq, Nat.reduceLeDiff, Nat.reduceSub, Nat.reduceBEq, argR]
  · (simp (config := {maxSteps := 60000}) only [go_sem, ↓reduceIte, Nat.reduceEqDiff, Nat.reduceAdd, Nat.reduceMul, Nat.reduceLT, Int.reduceLE, Int.reduceLT, Int.reduceEq, Int.reduceToNat, Int.reduceNeg, Int.reduceAdd, Int.reduceSub, Int.reduceMul, Nat.reduceBEq, Nat.reduceLeDiff, Nat.reduceSub, Nat.reduceBEq]) <;> rfl
  · simp (config := {maxSteps := 60000}) only [go_sem, ↓reduceIte, Nat.reduceEqDiff, Nat.reduceAdd, Nat.reduceMul, Nat.reduceLT, Int.reduceLE, Int.reduceLT, Int.reduceEq, Int.reduceToNat, Int.reduceNeg, Int.reduceAdd, Int.reduceSub, Int.reduceMul, Nat.reduceBEq, Nat.reduceLeDiff, Nat.reduceSub, Nat.reduceBEq]
  · (simp (config := {maxSteps := 60000}) only [go_sem, ↓reduceIte, Nat.reduceEqDiff, Nat.reduceAdd, Nat.reduceMul, Nat.reduceLT, Int.reduceLE, Int.reduceLT, Int.reduceEq, Int.reduceToNat, Int.reduceNeg, Int.reduceAdd, Int.reduceSub, Int.reduceMul, Nat.reduceBEq, Nat.reduceLeDiff, Nat.reduceSub, Nat.reduceBEq]) <;> rfl
  · (simp (config := {maxSteps := 60000}) only [go_sem, ↓reduceIte, Nat.reduceEqDiff, Nat.reduceAdd, Nat.reduceMul, Nat.reduceLT, Int.reduceLE, Int.reduceLT, Int.reduceEq, Int.reduceToNat, Int.reduceNeg, Int.reduceAdd, Int.reduceSub, Int.reduceMul, Nat.reduceBEq, Nat.reduceLeDiff, Nat.reduceSub, Nat.reduceBEq]) <;> rfl
  · rfl
  · rintro ex ρ' ms' h1 d1 ⟨rfl, k2, k3, k4, rfl, rfl, rfl⟩
    repeat (first | apply run_seq | apply run_block | apply end_seq | apply end_blk_hit | apply end_blk_miss rfl | apply end_blk | apply end_seq_exit | apply end_seq_ret | apply end_blk_ret | apply run_skip | apply run_ret | apply run_exit | (apply run_region (by decide); (simp (config := {maxSteps := 60000}) only [go_sem, ↓reduceIte, Nat.reduceEqDiff, Nat.reduceAdd, Nat.reduceMul, Nat.reduceLT, Int.reduceLE, Int.reduceLT, Int.reduceEq, Int.reduceToNat, Int.reduceNeg, Int.reduceAdd, Int.reduceSub, Int.reduceMul, Nat.reduceBEq, Nat.reduceLeDiff, Nat.reduceSub, Nat.reduceBEq, k2, k3, k4]; rfl)) | (refine run_cond_t ?_ ?_; · simp (config := {maxSteps := 60000}) only [go_sem, ↓reduceIte, Nat.reduceEqDiff, Nat.reduceAdd, Nat.reduceMul, Nat.reduceLT, Int.reduceLE, Int.reduceLT, Int.reduceEq, Int.reduceToNat, Int.reduceNeg, Int.reduceAdd, Int.reduceSub, Int.reduceMul, Nat.reduceBEq, Nat.reduceLeDiff, Nat.reduceSub, Nat.reduceBEq, k2, k3, k4]) | (refine run_cond_f ?_ ?_; · simp (config := {maxSteps := 60000}) only [go_sem, ↓reduceIte, Nat.reduceEqDiff, Nat.reduceAdd, Nat.reduceMul, Nat.reduceLT, Int.reduceLE, Int.reduceLT, Int.reduceEq, Int.reduceToNat, Int.reduceNeg, Int.reduceAdd, Int.reduceSub, Int.reduceMul, Nat.reduceBEq, Nat.reduceLeDiff, Nat.reduceSub, Nat.reduceBEq, k2, k3, k4]))
    exact end_nil (q_cell [.int .i64 (rs n).1, .int .i64 (rs n).2] (by simp (config := {maxSteps := 60000}) only [go_sem, ↓reduceIte, Nat.reduceEqDiff, Nat.reduceAdd, Nat.reduceMul, Nat.reduceLT, Int.reduceLE, Int.reduceLT, Int.reduceEq, Int.reduceToNat, Int.reduceNeg, Int.reduceAdd, Int.reduceSub, Int.reduceMul, Nat.reduceBEq, Nat.reduceLeDiff, Nat.reduceSub, Nat.reduceBEq, k2]) rfl ⟨_, by simp (config := {maxSteps := 60000}) only [go_sem, ↓reduceIte, Nat.reduceEqDiff, Nat.reduceAdd, Nat.reduceMul, Nat.reduceLT, Int.reduceLE, Int.reduceLT, Int.reduceEq, Int.reduceToNat, Int.reduceNeg, Int.reduceAdd, Int.reduceSub, Int.reduceMul, Nat.reduceBEq, Nat.reduceLeDiff, Nat.reduceSub, Nat.reduceBEq, k2]; rfl⟩ (take_app _ _))

/-- a heap that has grown -/
def Ext (h h' : SHeap) : Prop := ∃ g, h' = h ++ g
theorem Ext.refl (h : SHeap) : Ext h h := ⟨[], by simp⟩
theorem Ext.app {h h' : SHeap} (e : Ext h h') (l : List SO) : Ext h (h' ++ l) := by
  obtain ⟨g, rfl⟩ := e
  exact ⟨g ++ l, by simp⟩
theorem Ext.take {h h' : SHeap} (e : Ext h h') : h'.take h.length = h := by
  obtain ⟨g, rfl⟩ := e
  exact take_app _ _

theorem again_range (n : Int) : ∃ m : Nat, 1 ≤ m ∧ m ≤ 30 ∧ IntKind.i64.wrap (1 + IntKind.i64.wrap ((IntKind.u64.wrap n).tmod 30)) = m := by
  have h1 : IntKind.u64.wrap n = n % 18446744073709551616 := by simp [IntKind.wrap, IntKind.signed, IntKind.bits]
  rw [h1, Int.tmod_eq_emod_of_nonneg (by omega)]
  refine ⟨((n % 18446744073709551616) % 30 + 1).toNat, by omega, by omega, ?_⟩
  rw [wrap64 (x := n % 18446744073709551616 % 30) (by omega) (by omega), wrap64 (by omega) (by omega)]
  omega

theorem law4_loop (cx : Cx) (h : SHeap) : ∀ k ρ ms h' d', (∃ (r : Nat) (n : Int), r + k = 2 ∧ ρ 0 = .int .i64 n ∧ ρ 3 = .int .i64 r ∧ ms = [] ∧ Ext h h' ∧ d' = []) →
    LoopW M cx 6 sf4L0 ρ ms h' d' (fun ex ρ' ms' h' d' => ex = .exit 0 ∧ ms' = [] ∧ Ext h h' ∧ d' = []) := by
  refine loop_run _ ?_
  rintro k ρ ms h' d' ⟨r, n, hr, h0, h3, rfl, he, rfl⟩
  unfold sf4L0
  by_cases hk : k = 0
  · have e1 : ¬ ((r : Int) < 2) := by omega
    repeat (first | apply run_seq | apply run_block | apply end_seq | apply end_blk_hit | apply end_blk_miss rfl | apply end_blk | apply end_seq_exit | apply end_seq_ret | apply end_blk_ret | apply run_skip | apply run_ret | apply run_exit | (apply run_region (by decide); (simp (config := {maxSteps := 60000}) only [go_sem, ↓reduceIte, Nat.reduceEqDiff, Nat.reduceAdd, Nat.reduceMul, Nat.reduceLT, Int.reduceLE, Int.reduceLT, Int.reduceEq, Int.reduceToNat, Int.reduceNeg, Int.reduceAdd, Int.reduceSub, Int.reduceMul, Nat.reduceBEq, Nat.reduceLeDiff, Nat.reduceSub, Nat.reduceBEq, h0, h3, e1]; rfl)) | (refine run_cond_t ?_ ?_; · simp (config := {maxSteps := 60000}) only [go_sem, ↓reduceIte, Nat.reduceEqDiff, Nat.reduceAdd, Nat.reduceMul, Nat.reduceLT, Int.reduceLE, Int.reduceLT, Int.reduceEq, Int.reduceToNat, Int.reduceNeg, Int.reduceAdd, Int.reduceSub, Int.reduceMul, Nat.reduceBEq, Nat.reduceLeDiff, Nat.reduceSub, Nat.reduceBEq, h0, h3, e1]) | (refine run_cond_f ?_ ?_; · simp (config := {maxSteps := 60000}) only [go_sem, ↓reduceIte, Nat.reduceEqDiff, Nat.reduceAdd, Nat.reduceMul, Nat.reduceLT, Int.reduceLE, Int.reduceLT, Int.reduceEq, Int.reduceToNat, Int.reduceNeg, Int.reduceAdd, Int.reduceSub, Int.reduceMul, Nat.reduceBEq, Nat.reduceLeDiff, Nat.reduceSub, Nat.reduceBEq, h0, h3, e1]))
    exact end_nil ⟨rfl, rfl, he, rfl⟩
  · have e1 : (r : Int) < 2 := by omega
    have ew : IntKind.i64.wrap ((r : Int) + 1) = ((r + 1 : Nat) : Int) := by rw [wrap64 (by omega) (by omega)]; rfl
    obtain ⟨m, m1, m2, hm⟩ := again_range n
    by_cases n1 : n < 1
    · have c1 := fun h => harmonic_low n n1 h
      repeat (first | apply run_seq | apply run_block | apply end_seq | apply end_blk_hit | apply end_blk_miss rfl | apply end_blk | apply end_seq_exit | apply end_seq_ret | apply end_blk_ret | apply run_skip | apply run_ret | apply run_exit | (apply run_region (by decide); (simp (config := {maxSteps := 60000}) only [go_sem, ↓reduceIte, Nat.reduceEqDiff, Nat.reduceAdd, Nat.reduceMul, Nat.reduceLT, Int.reduceLE, Int.reduceLT, Int.reduceEq, Int.reduceToNat, Int.reduceNeg, Int.reduceAdd, Int.reduceSub, Int.reduceMul, Nat.reduceBEq, Nat.reduceLeDiff, Nat.reduceSub, Nat.reduceBEq, h0, h3, e1, c1, n1, hm, ew]; rfl)) | (refine run_cond_t ?_ ?_; · simp (config := {maxSteps := 60000}) only [go_sem, ↓reduceIte, Nat.reduceEqDiff, Nat.reduceAdd, Nat.reduceMul, Nat.reduceLT, Int.reduceLE, Int.reduceLT, Int.reduceEq, Int.reduceToNat, Int.reduceNeg, Int.reduceAdd, Int.reduceSub, Int.reduceMul, Nat.reduceBEq, Nat.reduceLeDiff, Nat.reduceSub, Nat.reduceBEq, h0, h3, e1, c1, n1, hm, ew]) | (refine run_cond_f ?_ ?_; · simp (config := {maxSteps := 60000}) only [go_sem, ↓reduceIte, Nat.reduceEqDiff, Nat.reduceAdd, Nat.reduceMul, Nat.reduceLT, Int.reduceLE, Int.reduceLT, Int.reduceEq, Int.reduceToNat, Int.reduceNeg, Int.reduceAdd, Int.reduceSub, Int.reduceMul, Nat.reduceBEq, Nat.reduceLeDiff, Nat.reduceSub, Nat.reduceBEq, h0, h3, e1, c1, n1, hm, ew]))
      refine end_nil ⟨k - 1, by omega, r + 1, m, by omega, ?_, ?_, rfl, he.app _, rfl⟩
      · simp (config := {maxSteps := 60000}) only [go_sem, ↓reduceIte, Nat.reduceEqDiff, Nat.reduceAdd, Nat.reduceMul, Nat.reduceLT, Int.reduceLE, Int.reduceLT, Int.reduceEq, Int.reduceToNat, Int.reduceNeg, Int.reduceAdd, Int.reduceSub, Int.reduceMul, Nat.reduceBEq, Nat.reduceLeDiff, Nat.reduceSub, Nat.reduceBEq]
      · simp (config := {maxSteps := 60000}) only [go_sem, ↓reduceIte, Nat.reduceEqDiff, Nat.reduceAdd, Nat.reduceMul, Nat.reduceLT, Int.reduceLE, Int.reduceLT, Int.reduceEq, Int.reduceToNat, Int.reduceNeg, Int.reduceAdd, Int.reduceSub, Int.reduceMul, Nat.reduceBEq, Nat.reduceLeDiff, Nat.reduceSub, Nat.reduceBEq, ew]
    · by_cases n2 : 30 < n
      · have c1 := fun h => harmonic_high n n1 n2 h
        repeat (first | apply run_seq | apply run_block | apply end_seq | apply end_blk_hit | apply end_blk_miss rfl | apply end_blk | apply end_seq_exit | apply end_seq_ret | apply end_blk_ret | apply run_skip | apply run_ret | apply run_exit | (apply run_region (by decide); (simp (config := {maxSteps := 60000}) only [go_sem, ↓reduceIte, Nat.reduceEqDiff, Nat.reduceAdd, Nat.reduceMul, Nat.reduceLT, Int.reduceLE, Int.reduceLT, Int.reduceEq, Int.reduceToNat, Int.reduceNeg, Int.reduceAdd, Int.reduceSub, Int.reduceMul, Nat.reduceBEq, Nat.reduceLeDiff, Nat.reduceSub, Nat.reduceBEq, h0, h3, e1, c1, n1, n2, hm, ew]; rfl)) | (refine run_cond_t ?_ ?_; · simp (config := {maxSteps := 60000}) only [go_sem, ↓reduceIte, Nat.reduceEqDiff, Nat.reduceAdd, Nat.reduceMul, Nat.reduceLT, Int.reduceLE, Int.reduceLT, Int.reduceEq, Int.reduceToNat, Int.reduceNeg, Int.reduceAdd, Int.reduceSub, Int.reduceMul, Nat.reduceBEq, Nat.reduceLeDiff, Nat.reduceSub, Nat.reduceBEq, h0, h3, e1, c1, n1, n2, hm, ew]) | (refine run_cond_f ?_ ?_; · simp (config := {maxSteps := 60000}) only [go_sem, ↓reduceIte, Nat.reduceEqDiff, Nat.reduceAdd, Nat.reduceMul, Nat.reduceLT, Int.reduceLE, Int.reduceLT, Int.reduceEq, Int.reduceToNat, Int.reduceNeg, Int.reduceAdd, Int.reduceSub, Int.reduceMul, Nat.reduceBEq, Nat.reduceLeDiff, Nat.reduceSub, Nat.reduceBEq, h0, h3, e1, c1, n1, n2, hm, ew]))
        refine end_nil ⟨k - 1, by omega, r + 1, m, by omega, ?_, ?_, rfl, he.app _, rfl⟩
        · simp (config := {maxSteps := 60000}) only [go_sem, ↓reduceIte, Nat.reduceEqDiff, Nat.reduceAdd, Nat.reduceMul, Nat.reduceLT, Int.reduceLE, Int.reduceLT, Int.reduceEq, Int.reduceToNat, Int.reduceNeg, Int.reduceAdd, Int.reduceSub, Int.reduceMul, Nat.reduceBEq, Nat.reduceLeDiff, Nat.reduceSub, Nat.reduceBEq]
        · simp (config := {maxSteps := 60000}) only [go_sem, ↓reduceIte, Nat.reduceEqDiff, Nat.reduceAdd, Nat.reduceMul, Nat.reduceLT, Int.reduceLE, Int.reduceLT, Int.reduceEq, Int.reduceToNat, Int.reduceNeg, Int.reduceAdd, Int.reduceSub, Int.reduceMul, Nat.reduceBEq, Nat.reduceLeDiff, Nat.reduceSub, Nat.reduceBEq, ew]
      · obtain ⟨j, rfl⟩ : ∃ j : Nat, n = j := ⟨n.toNat, by omega⟩
        have c1 := fun h => harmonic j (by omega) (by omega) h
        have c2 := fun h => harmonicR j (by omega) h
        have e2 := hs_rs j (by omega) (by omega)
        rw [← e2] at c2
        repeat (first | apply run_seq | apply run_block | apply end_seq | apply end_blk_hit | apply end_blk_miss rfl | apply end_blk | apply end_seq_exit | apply end_seq_ret | apply end_blk_ret | apply run_skip | apply run_ret | apply run_exit | (apply run_region (by decide); (simp (config := {maxSteps := 60000}) only [go_sem, ↓reduceIte, Nat.reduceEqDiff, Nat.reduceAdd, Nat.reduceMul, Nat.reduceLT, Int.reduceLE, Int.reduceLT, Int.reduceEq, Int.reduceToNat, Int.reduceNeg, Int.reduceAdd, Int.reduceSub, Int.reduceMul, Nat.reduceBEq, Nat.reduceLeDiff, Nat.reduceSub, Nat.reduceBEq, h0, h3, e1, c1, c2, n1, n2, hm, ew]; rfl)) | (refine run_cond_t ?_ ?_; · simp (config := {maxSteps := 60000}) only [go_sem, ↓reduceIte, Nat.reduceEqDiff, Nat.reduceAdd, Nat.reduceMul, Nat.reduceLT, Int.reduceLE, Int.reduceLT, Int.reduceEq, Int.reduceToNat, Int.reduceNeg, Int.reduceAdd, Int.reduceSub, Int.reduceMul, Nat.reduceBEq, Nat.reduceLeDiff, Nat.reduceSub, Nat.reduceBEq, h0, h3, e1, c1, c2, n1, n2, hm, ew]) | (refine run_cond_f ?_ ?_; · simp (config := {maxSteps := 60000}) only [go_sem, ↓reduceIte, Nat.reduceEqDiff, Nat.reduceAdd, Nat.reduceMul, Nat.reduceLT, Int.reduceLE, Int.reduceLT, Int.reduceEq, Int.reduceToNat, Int.reduceNeg, Int.reduceAdd, Int.reduceSub, Int.reduceMul, Nat.reduceBEq, Nat.reduceLeDiff, Nat.reduceSub, Nat.reduceBEq, h0, h3, e1, c1, c2, n1, n2, hm, ew]))
        refine end_nil ⟨k - 1, by omega, r + 1, m, by omega, ?_, ?_, rfl, he.app _, rfl⟩
        · simp (config := {maxSteps := 60000}) only [go_sem, ↓reduceIte, Nat.reduceEqDiff, Nat.reduceAdd, Nat.reduceMul, Nat.reduceLT, Int.reduceLE, Int.reduceLT, Int.reduceEq, Int.reduceToNat, Int.reduceNeg, Int.reduceAdd, Int.reduceSub, Int.reduceMul, Nat.reduceBEq, Nat.reduceLeDiff, Nat.reduceSub, Nat.reduceBEq]
        · simp (config := {maxSteps := 60000}) only [go_sem, ↓reduceIte, Nat.reduceEqDiff, Nat.reduceAdd, Nat.reduceMul, Nat.reduceLT, Int.reduceLE, Int.reduceLT, Int.reduceEq, Int.reduceToNat, Int.reduceNeg, Int.reduceAdd, Int.reduceSub, Int.reduceMul, Nat.reduceBEq, Nat.reduceLeDiff, Nat.reduceSub, Nat.reduceBEq, ew]

/-- HullHarmonic on the shadow machine -/
theorem law4 (n : Int) (h : SHeap) : M.call 4 [.int .i64 n] h = some (.bool true, h, []) := by
  refine call_run sf4 rfl rfl rfl ?_
  unfold sf4
  repeat (first | apply run_seq | apply run_block | apply end_seq | apply end_blk_hit | apply end_blk_miss rfl | apply end_blk | apply end_seq_exit | apply end_seq_ret | apply end_blk_ret | apply run_skip | apply run_ret | apply run_exit | (apply run_region (by decide); (simp (config := {maxSteps := 60000}) only [go_sem, ↓reduceIte, Nat.reduceEqDiff, Nat.reduceAdd, Nat.reduceMul, Nat.reduceLT, Int.reduceLE, Int.reduceLT, Int.reduceEq, Int.reduceToNat, Int.reduceNeg, Int.reduceAdd, Int.reduceSub, Int.reduceMul, Nat.reduceBEq, Nat.reduceLeDiff, Nat.reduceSub, Nat.reduceBEq, argR]; rfl)) | (refine run_cond_t ?_ ?_; · simp (config := {maxSteps := 60000}) only [go_sem, ↓reduceIte, Nat.reduceEqDiff, Nat.reduceAdd, Nat.reduceMul, Nat.reduceLT, Int.reduceLE, Int.reduceLT, Int.reduceEq, Int.reduceToNat, Int.reduceNeg, Int.reduceAdd, Int.reduceSub, Int.reduceMul, Nat.reduceBEq, Nat.reduceLeDiff, Nat.reduceSub, Nat.reduceBEq, argR]) | (refine run_cond_f ?_ ?_; · simp (config := {maxSteps := 60000}) only [go_sem, ↓reduceIte, Nat.reduceEqDiff, Nat.reduceAdd, Nat.reduceMul, Nat.reduceLT, Int.reduceLE, Int.reduceLT, Int.reduceEq, Int.reduceToNat, Int.reduceNeg, Int.reduceAdd, Int.reduceSub, Int.reduceMul, Nat.reduceBEq, Nat.reduceLeDiff, Nat.reduceSub, Nat.reduceBEq, argR]))
  refine run_loop (law4_loop _ h 2 _ _ _ _ ⟨0, n, by omega, ?_, ?_, rfl, Ext.refl h, rfl⟩) ?_
  · simp (config := {maxSteps := 60000}) only [go_sem, ↓reduceIte, Nat.reduceEqDiff, Nat.reduceAdd, Nat.reduceMul, Nat.reduceLT, Int.reduceLE, Int.reduceLT, Int.reduceEq, Int.reduceToNat, Int.reduceNeg, Int.reduceAdd, Int.reduceSub, Int.reduceMul, Nat.reduceBEq, Nat.reduceLeDiff, Nat.reduceSub, Nat.reduceBEq, argR]
  · (simp (config := {maxSteps := 60000}) only [go_sem, ↓reduceIte, Nat.reduceEqDiff, Nat.reduceAdd, Nat.reduceMul, Nat.reduceLT, Int.reduceLE, Int.reduceLT, Int.reduceEq, Int.reduceToNat, Int.reduceNeg, Int.reduceAdd, Int.reduceSub, Int.reduceMul, Nat.reduceBEq, Nat.reduceLeDiff, Nat.reduceSub, Nat.reduceBEq]) <;> rfl
  · rintro ex ρ' ms' h1 d1 ⟨rfl, rfl, he, rfl⟩
    have aw := awake_call h1
    repeat (first | apply run_seq | apply run_block | apply end_seq | apply end_blk_hit | apply end_blk_miss rfl | apply end_blk | apply end_seq_exit | apply end_seq_ret | apply end_blk_ret | apply run_skip | apply run_ret | apply run_exit | (apply run_region (by decide); (simp (config := {maxSteps := 60000}) only [go_sem, ↓reduceIte, Nat.reduceEqDiff, Nat.reduceAdd, Nat.reduceMul, Nat.reduceLT, Int.reduceLE, Int.reduceLT, Int.reduceEq, Int.reduceToNat, Int.reduceNeg, Int.reduceAdd, Int.reduceSub, Int.reduceMul, Nat.reduceBEq, Nat.reduceLeDiff, Nat.reduceSub, Nat.reduceBEq, aw]; rfl)) | (refine run_cond_t ?_ ?_; · simp (config := {maxSteps := 60000}) only [go_sem, ↓reduceIte, Nat.reduceEqDiff, Nat.reduceAdd, Nat.reduceMul, Nat.reduceLT, Int.reduceLE, Int.reduceLT, Int.reduceEq, Int.reduceToNat, Int.reduceNeg, Int.reduceAdd, Int.reduceSub, Int.reduceMul, Nat.reduceBEq, Nat.reduceLeDiff, Nat.reduceSub, Nat.reduceBEq, aw]) | (refine run_cond_f ?_ ?_; · simp (config := {maxSteps := 60000}) only [go_sem, ↓reduceIte, Nat.reduceEqDiff, Nat.reduceAdd, Nat.reduceMul, Nat.reduceLT, Int.reduceLE, Int.reduceLT, Int.reduceEq, Int.reduceToNat, Int.reduceNeg, Int.reduceAdd, Int.reduceSub, Int.reduceMul, Nat.reduceBEq, Nat.reduceLeDiff, Nat.reduceSub, Nat.reduceBEq, aw]))
    exact end_nil (q_ret1 _ (by simp (config := {maxSteps := 60000}) only [go_sem, ↓reduceIte, Nat.reduceEqDiff, Nat.reduceAdd, Nat.reduceMul, Nat.reduceLT, Int.reduceLE, Int.reduceLT, Int.reduceEq, Int.reduceToNat, Int.reduceNeg, Int.reduceAdd, Int.reduceSub, Int.reduceMul, Nat.reduceBEq, Nat.reduceLeDiff, Nat.reduceSub, Nat.reduceBEq]) rfl he.take)
end Go.Proofs.Ytecncmmkghmojaa.Sh
