/- Squares of the document: the walk. -/
import Derived.Test.YtdmfhdnpakgkpaaDoorGg
set_option linter.all false
namespace Go.Proofs.YtdmfhdnpakgkpaaDoor.Sh
open Go
set_option maxRecDepth 100000

theorem climb_loop (cx : Cx) {n a : Nat} (hn : n ≤ 1000000) (ha : a ≤ n) (H : SHeap) (v : Value) : ∀ k ρ ms h' d', (∃ b : Nat, b + k = n + 1 ∧ ρ 0 = .int .i64 n ∧ ρ 3 = v ∧ ρ 4 = .int .i64 a ∧ ρ 5 = .int .i64 b ∧ (∀ c, c < b → a * a + c * c < n) ∧ ms = [] ∧ h' = H ∧ d' = []) →
    LoopW M cx 6 sf20L0 ρ ms h' d' (fun ex ρ' ms' h' d' => ex = .exit 2 ∧ ms' = [] ∧ h' = H ∧ d' = [] ∧ ∃ b : Nat, b ≤ n + 1 ∧ ρ' 0 = .int .i64 n ∧ ρ' 3 = v ∧ ρ' 4 = .int .i64 a ∧ ρ' 5 = .int .i64 b ∧ (∀ c, c < b → a * a + c * c < n) ∧ n ≤ a * a + b * b) := by
  refine loop_run _ ?_
  rintro k ρ ms h' d' ⟨b, hb, r0, r3, r4, r5, hdn, rfl, rfl, rfl⟩
  unfold sf20L0
  have w1 := mul_w (a := b) (b := b) (by omega) (by omega)
  have w2 := mul_w (a := a) (b := a) (by omega) (by omega)
  have w3 := add_w (sq_le (show a ≤ 1000001 by omega)) (sq_le (show b ≤ 1000001 by omega))
  have hs := sq_self b
  by_cases hc : a * a + b * b < n
  · have e1 : ((a * a + b * b : Nat) : Int) < n := by omega
    have ew : IntKind.i64.wrap ((b : Int) + 1) = ((b + 1 : Nat) : Int) := by rw [wrap64 (by omega) (by omega)]; rfl
    repeat (first | apply run_seq | apply run_block | apply end_seq | apply end_blk_hit | apply end_blk_miss rfl | apply end_blk | apply end_seq_exit | apply end_seq_ret | apply end_blk_ret | apply run_skip | apply run_ret | apply run_exit | (apply run_region (by decide); (simp only [go_sem, r0, r4, r5, w1, w2, w3, e1, ew]; rfl)) | (refine run_cond_t ?_ ?_; · simp only [go_sem]) | (refine run_cond_f ?_ ?_; · simp only [go_sem]))
    refine end_nil ⟨k - 1, by omega, b + 1, by omega, ?_, ?_, ?_, ?_, fun c hc' => ?_, rfl, rfl, rfl⟩
    · simp only [go_sem, r0]
    · simp only [go_sem, r3]
    · simp only [go_sem, r4]
    · simp only [go_sem, ew]
    · by_cases e : c = b
      · subst e; exact hc
      · exact hdn c (by omega)
  · have e1 : ¬ (((a * a + b * b : Nat) : Int) < n) := by omega
    repeat (first | apply run_seq | apply run_block | apply end_seq | apply end_blk_hit | apply end_blk_miss rfl | apply end_blk | apply end_seq_exit | apply end_seq_ret | apply end_blk_ret | apply run_skip | apply run_ret | apply run_exit | (apply run_region (by decide); (simp only [go_sem, r0, r4, r5, w1, w2, w3, e1]; rfl)) | (refine run_cond_t ?_ ?_; · simp only [go_sem]) | (refine run_cond_f ?_ ?_; · simp only [go_sem]))
    refine end_nil ⟨rfl, rfl, rfl, rfl, b, by omega, ?_, ?_, ?_, ?_, hdn, by omega⟩
    · simp only [go_sem, r0]
    · simp only [go_sem, r3]
    · simp only [go_sem, r4]
    · simp only [go_sem, r5]

theorem squaresR_loop (cx : Cx) {n : Nat} (hn : n ≤ 1000000) (H : SHeap) : ∀ k ρ ms h' d', (∃ (a : Nat) (v : Value), a + k = n + 1 ∧ ρ 0 = .int .i64 n ∧ ρ 3 = v ∧ ρ 4 = .int .i64 a ∧ (∀ c, c < a → 2 * c * c ≤ n) ∧ AccS H h' v (prs (sqL n a)) (sqL n a).length 2 34 ∧ ms = [] ∧ d' = []) →
    LoopW M cx 6 sf20L1 ρ ms h' d' (fun ex ρ' ms' h' d' => ex = .exit 0 ∧ ms' = [] ∧ d' = [] ∧ ∃ v : Value, ρ' 3 = v ∧ AccS H h' v (prs (sqs n)) (sqs n).length 2 34) := by
  refine loop_run _ ?_
  rintro k ρ ms h' d' ⟨a, v, hk, r0, r3, r4, hlow, A, rfl, rfl⟩
  unfold sf20L1
  have ha : a ≤ 1000001 := by omega
  have w0 : IntKind.i64.wrap (2 * (a : Int)) = ((2 * a : Nat) : Int) := by rw [wrap64 (by omega) (by omega)]; rfl
  have h2a : 2 * a * a = 2 * (a * a) := Nat.mul_assoc _ _ _
  have hsa := sq_le ha
  have w1 : IntKind.i64.wrap (((2 * a : Nat) : Int) * a) = ((2 * a * a : Nat) : Int) := by rw [← Int.natCast_mul, wrap64 (by omega) (by omega)]
  by_cases hc : n < 2 * a * a
  · have e1 : ¬ (((2 * a * a : Nat) : Int) ≤ n) := by omega
    have ht := topA_at hc hlow
    repeat (first | apply run_seq | apply run_block | apply end_seq | apply end_blk_hit | apply end_blk_miss rfl | apply end_blk | apply end_seq_exit | apply end_seq_ret | apply end_blk_ret | apply run_skip | apply run_ret | apply run_exit | (apply run_region (by decide); (simp only [go_sem, r0, r4, w0, w1, e1]; rfl)) | (refine run_cond_t ?_ ?_; · simp only [go_sem]) | (refine run_cond_f ?_ ?_; · simp only [go_sem]))
    refine end_nil ⟨rfl, rfl, rfl, v, ?_, ?_⟩
    · simp only [go_sem, r3]
    · unfold sqs; rw [ht]; exact A
  · have e1 : ((2 * a * a : Nat) : Int) ≤ n := by omega
    have hs := sq_self a
    have ew : IntKind.i64.wrap ((a : Int) + 1) = ((a + 1 : Nat) : Int) := by rw [wrap64 (by omega) (by omega)]; rfl
    repeat (first | apply run_seq | apply run_block | apply end_seq | apply end_blk_hit | apply end_blk_miss rfl | apply end_blk | apply end_seq_exit | apply end_seq_ret | apply end_blk_ret | apply run_skip | apply run_ret | apply run_exit | (apply run_region (by decide); (simp only [go_sem, r0, r4, w0, w1, e1]; rfl)) | (refine run_cond_t ?_ ?_; · simp only [go_sem]) | (refine run_cond_f ?_ ?_; · simp only [go_sem]))
    have hlow' : ∀ c, c < a + 1 → 2 * c * c ≤ n := fun c hc => by
      by_cases e : c = a
      · subst e; omega
      · exact hlow c (by omega)
    refine run_loop (climb_loop cx (a := a) hn (by omega) h' v (n + 1 - a) _ _ _ _ ⟨a, by omega, by simp only [go_sem, r0], by simp only [go_sem, r3], by simp only [go_sem, r4], by simp only [go_sem], fun c hc => ?_, rfl, rfl, rfl⟩) ?_
    · have := sq_mono hc; omega
    rintro ex ρ' ms' h1 d1 ⟨rfl, rfl, rfl, rfl, b, hb, k0, k3, k4, k5, hdn, hle⟩
    have m1 := mul_w (a := a) (b := a) ha ha
    have m2 := mul_w (a := b) (b := b) (by omega) (by omega)
    have m3 := add_w hsa (sq_le (show b ≤ 1000001 by omega))
    by_cases he : a * a + b * b = n
    · have hq := sqAt_yes he
      have hL : sqL n (a + 1) = sqL n a ++ [((a : Int), (b : Int))] := by rw [sqL_succ, hq]
      have hLl : (sqL n (a + 1)).length = (sqL n a).length + 1 := by rw [hL, List.length_append]; rfl
      have hlen := sqL_len n a
      obtain ⟨H2, v2, ap, -, A2, -, -⟩ := (A.app [.cells [.int .i64 a, .int .i64 b] 34 true 0 []]).push (bytes := 16) (new := [.int .i64 a, .int .i64 b]) (by rw [app_get0]; rfl) rfl rfl (by decide) rfl (by decide) (by omega)
      have hp : prs (sqL n (a + 1)) = prs (sqL n a) ++ [.int .i64 a, .int .i64 b] := by rw [hL, prs_app]; rfl
      rw [← hp, ← hLl] at A2
      have e2 : ((a * a + b * b : Nat) : Int) = n := by omega
      obtain ⟨va, vc, rfl⟩ := A.shape
      repeat (first | apply run_seq | apply run_block | apply end_seq | apply end_blk_hit | apply end_blk_miss rfl | apply end_blk | apply end_seq_exit | apply end_seq_ret | apply end_blk_ret | apply run_skip | apply run_ret | apply run_exit | (apply run_region (by decide); (simp only [go_sem, k0, k3, k4, k5, m1, m2, m3, e2, ap, ew]; rfl)) | (refine run_cond_t ?_ ?_; · simp only [go_sem]) | (refine run_cond_f ?_ ?_; · simp only [go_sem]))
      refine end_nil ⟨k - 1, by omega, a + 1, v2, by omega, ?_, ?_, ?_, hlow', A2, rfl, rfl⟩
      · simp only [go_sem, k0]
      · simp only [go_sem]
      · simp only [go_sem, ew]
    · have hq := sqAt_no (up_no (n := n) (a := a) (b := b) hdn (by omega))
      have hL : sqL n (a + 1) = sqL n a := by rw [sqL_succ, hq, List.append_nil]
      have e2 : ¬ (((a * a + b * b : Nat) : Int) = n) := by omega
      repeat (first | apply run_seq | apply run_block | apply end_seq | apply end_blk_hit | apply end_blk_miss rfl | apply end_blk | apply end_seq_exit | apply end_seq_ret | apply end_blk_ret | apply run_skip | apply run_ret | apply run_exit | (apply run_region (by decide); (simp only [go_sem, k0, k3, k4, k5, m1, m2, m3, e2, ew]; rfl)) | (refine run_cond_t ?_ ?_; · simp only [go_sem]) | (refine run_cond_f ?_ ?_; · simp only [go_sem]))
      refine end_nil ⟨k - 1, by omega, a + 1, v, by omega, ?_, ?_, ?_, hlow', by rw [hL]; exact A, rfl, rfl⟩
      · simp only [go_sem, k0]
      · simp only [go_sem, k3]
      · simp only [go_sem, ew]

/-- Squares of the document -/
theorem squaresR20 {n : Nat} (hn : n ≤ 1000000) (h : SHeap) : M.call 20 [.int .i64 n] h = some (resV h (sqs n).length 2, resH h (prs (sqs n)) (sqs n).length 34, []) := by
  refine call_run sf20 rfl rfl rfl ?_
  unfold sf20
  repeat (first | apply run_seq | apply run_block | apply end_seq | apply end_blk_hit | apply end_blk_miss rfl | apply end_blk | apply end_seq_exit | apply end_seq_ret | apply end_blk_ret | apply run_skip | apply run_ret | apply run_exit | (apply run_region (by decide); (simp only [go_sem, argR]; rfl)) | (refine run_cond_t ?_ ?_; · simp only [go_sem]) | (refine run_cond_f ?_ ?_; · simp only [go_sem]))
  refine run_loop (squaresR_loop _ hn h (n + 1) _ _ _ _ ⟨0, .slice none 0 0, by omega, ?_, ?_, ?_, fun c hc => by omega, AccS.nil0 h 2 34, rfl, rfl⟩) ?_
  · simp only [go_sem, argR]
  · simp only [go_sem]
  · (simp only [go_sem]) <;> rfl
  rintro ex ρ2 ms2 h2 d2 ⟨rfl, rfl, rfl, v, k3, A⟩
  repeat (first | apply run_seq | apply run_block | apply end_seq | apply end_blk_hit | apply end_blk_miss rfl | apply end_blk | apply end_seq_exit | apply end_seq_ret | apply end_blk_ret | apply run_skip | apply run_ret | apply run_exit | (apply run_region (by decide); (simp only [go_sem, k3]; rfl)) | (refine run_cond_t ?_ ?_; · simp only [go_sem]) | (refine run_cond_f ?_ ?_; · simp only [go_sem]))
  have A' : AccS (h ++ []) h2 v (prs (sqs n)) (sqs n).length 2 34 := by rw [List.append_nil]; exact A
  exact end_nil (A'.q1 rfl rfl (by simp only [go_sem]))
end Go.Proofs.YtdmfhdnpakgkpaaDoor.Sh

