/- squares: the walk, its outer loop. -/
import Derived.Test.YtdmfhdnpakgkpaaDoorGf
set_option linter.all false
namespace Go.Proofs.YtdmfhdnpakgkpaaDoor.Sh
open Go
set_option maxRecDepth 100000

/-- the first number whose square is more than half of n -/
def topA (n : Nat) : Nat := ((List.range (n + 2)).find? fun a => decide (n < 2 * a * a)).getD 0
theorem topA_at {n a : Nat} (h1 : n < 2 * a * a) (h2 : ∀ c, c < a → 2 * c * c ≤ n) : topA n = a := by
  unfold topA
  have hle : a < n + 2 := by
    by_cases e : a = 0
    · omega
    · have h3 := h2 (a - 1) (by omega)
      have h4 := sq_self (a - 1)
      have h5 : 2 * (a - 1) * (a - 1) = 2 * ((a - 1) * (a - 1)) := Nat.mul_assoc _ _ _
      omega
  have : (List.range (n + 2)).find? (fun a => decide (n < 2 * a * a)) = some a := by
    rw [List.find?_range_eq_some]
    refine ⟨by simpa using h1, by simpa using hle, fun j hj => ?_⟩
    have := h2 j hj
    simp; omega
  rw [this]; rfl
/-- all sums of two squares -/
def sqs (n : Nat) : List (Int × Int) := sqL n (topA n)

theorem squares_loop (cx : Cx) {n : Nat} (hn : n ≤ 1000000) (H : SHeap) : ∀ k ρ ms h' d', (∃ (a b : Nat) (v : Value), a + k = n + 1 ∧ b ≤ n ∧ ρ 0 = .int .i64 n ∧ ρ 3 = v ∧ ρ 4 = .int .i64 b ∧ ρ 5 = .int .i64 a ∧ (∀ c, c < a → 2 * c * c ≤ n) ∧ (∀ c, b < c → n < a * a + c * c) ∧ AccS H h' v (prs (sqL n a)) (sqL n a).length 2 34 ∧ ms = [] ∧ d' = []) →
    LoopW M cx 6 sf58L1 ρ ms h' d' (fun ex ρ' ms' h' d' => ex = .exit 2 ∧ ms' = [] ∧ d' = [] ∧ ∃ v : Value, ρ' 3 = v ∧ AccS H h' v (prs (sqs n)) (sqs n).length 2 34) := by
  refine loop_run _ ?_
  rintro k ρ ms h' d' ⟨a, b, v, hk, hb, r0, r3, r4, r5, hlow, hup, A, rfl, rfl⟩
  unfold sf58L1
  have ha : a ≤ 1000001 := by omega
  have w0 : IntKind.i64.wrap (2 * (a : Int)) = ((2 * a : Nat) : Int) := by rw [wrap64 (by omega) (by omega)]; rfl
  have h2a : 2 * a * a = 2 * (a * a) := Nat.mul_assoc _ _ _
  have hsa := sq_le ha
  have w1 : IntKind.i64.wrap (((2 * a : Nat) : Int) * a) = ((2 * a * a : Nat) : Int) := by rw [← Int.natCast_mul, wrap64 (by omega) (by omega)]
  by_cases hc : n < 2 * a * a
  · have e1 : ¬ (((2 * a * a : Nat) : Int) ≤ n) := by omega
    have ht := topA_at hc hlow
    repeat (first | apply run_seq | apply run_block | apply end_seq | apply end_blk_hit | apply end_blk_miss rfl | apply end_blk | apply end_seq_exit | apply end_seq_ret | apply end_blk_ret | apply run_skip | apply run_ret | apply run_exit | (apply run_region (by decide); (simp only [go_sem, r0, r5, w0, w1, e1]; rfl)) | (apply run_regionN (by decide); (simp only [go_sem, r0, r5, w0, w1, e1]; rfl)) | (refine run_cond_t ?_ ?_; · simp only [go_sem]) | (refine run_cond_f ?_ ?_; · simp only [go_sem]))
    refine end_nil ⟨rfl, rfl, rfl, v, ?_, ?_⟩
    · simp only [go_sem, r3]
    · unfold sqs; rw [ht]; exact A
  · have e1 : ((2 * a * a : Nat) : Int) ≤ n := by omega
    have hs := sq_self a
    have ew : IntKind.i64.wrap ((a : Int) + 1) = ((a + 1 : Nat) : Int) := by rw [wrap64 (by omega) (by omega)]; rfl
    repeat (first | apply run_seq | apply run_block | apply end_seq | apply end_blk_hit | apply end_blk_miss rfl | apply end_blk | apply end_seq_exit | apply end_seq_ret | apply end_blk_ret | apply run_skip | apply run_ret | apply run_exit | (apply run_region (by decide); (simp only [go_sem, r0, r5, w0, w1, e1]; rfl)) | (apply run_regionN (by decide); (simp only [go_sem, r0, r5, w0, w1, e1]; rfl)) | (refine run_cond_t ?_ ?_; · simp only [go_sem]) | (refine run_cond_f ?_ ?_; · simp only [go_sem]))
    refine run_loop (fall_loop cx hn ha h' v b _ _ _ _ ⟨b, rfl, hb, by simp only [go_sem, r0], by simp only [go_sem, r3], by simp only [go_sem, r4], by simp only [go_sem, r5], hup, rfl, rfl, rfl⟩) ?_
    rintro ex ρ' ms' h1 d1 ⟨rfl, rfl, rfl, rfl, b, hb, k0, k3, k4, k5, hup, hle⟩
    have m1 := mul_w (a := a) (b := a) ha ha
    have m2 := mul_w (a := b) (b := b) (by omega) (by omega)
    have m3 := add_w hsa (sq_le (show b ≤ 1000001 by omega))
    have hup' : ∀ c, b < c → n < (a + 1) * (a + 1) + c * c := fun c hc => by
      have := hup c hc
      have := sq_mono (show a < a + 1 by omega)
      omega
    have hlow' : ∀ c, c < a + 1 → 2 * c * c ≤ n := fun c hc => by
      by_cases e : c = a
      · subst e; omega
      · exact hlow c (by omega)
    by_cases he : a * a + b * b = n
    · have hq := sqAt_yes he
      have hL : sqL n (a + 1) = sqL n a ++ [((a : Int), (b : Int))] := by rw [sqL_succ, hq]
      have hLl : (sqL n (a + 1)).length = (sqL n a).length + 1 := by rw [hL, List.length_append]; rfl
      have hlen := sqL_len n a
      obtain ⟨H2, v2, ap, -, A2, -, -⟩ := (A.app [.cells [.int .i64 a, .int .i64 b] 34 true 0 []]).push (bytes := 16) (new := [.int .i64 a, .int .i64 b]) (by rw [app_get0]; rfl) rfl rfl (by decide) rfl (by decide) (by omega)
      have hp : prs (sqL n (a + 1)) = prs (sqL n a) ++ [.int .i64 a, .int .i64 b] := by rw [hL, prs_app]; rfl
      rw [← hp, ← hLl] at A2
      have e2 : ((a * a + b * b : Nat) : Int) = n := by omega
      obtain ⟨va, vc, rfl⟩ := A.shape
      repeat (first | apply run_seq | apply run_block | apply end_seq | apply end_blk_hit | apply end_blk_miss rfl | apply end_blk | apply end_seq_exit | apply end_seq_ret | apply end_blk_ret | apply run_skip | apply run_ret | apply run_exit | (apply run_region (by decide); (simp only [go_sem, k0, k3, k4, k5, m1, m2, m3, e2, ap, ew]; rfl)) | (apply run_regionN (by decide); (simp only [go_sem, k0, k3, k4, k5, m1, m2, m3, e2, ap, ew]; rfl)) | (refine run_cond_t ?_ ?_; · simp only [go_sem]) | (refine run_cond_f ?_ ?_; · simp only [go_sem]))
      refine end_nil ⟨k - 1, by omega, a + 1, b, v2, by omega, hb, ?_, ?_, ?_, ?_, hlow', hup', A2, rfl, rfl⟩
      · simp only [go_sem, k0]
      · simp only [go_sem]
      · simp only [go_sem, k4]
      · simp only [go_sem, ew]
    · have hq := sqAt_no (down_no (n := n) (a := a) (b := b) (by omega) hup hle he)
      have hL : sqL n (a + 1) = sqL n a := by rw [sqL_succ, hq, List.append_nil]
      have e2 : ¬ (((a * a + b * b : Nat) : Int) = n) := by omega
      repeat (first | apply run_seq | apply run_block | apply end_seq | apply end_blk_hit | apply end_blk_miss rfl | apply end_blk | apply end_seq_exit | apply end_seq_ret | apply end_blk_ret | apply run_skip | apply run_ret | apply run_exit | (apply run_region (by decide); (simp only [go_sem, k0, k3, k4, k5, m1, m2, m3, e2, ew]; rfl)) | (apply run_regionN (by decide); (simp only [go_sem, k0, k3, k4, k5, m1, m2, m3, e2, ew]; rfl)) | (refine run_cond_t ?_ ?_; · simp only [go_sem]) | (refine run_cond_f ?_ ?_; · simp only [go_sem]))
      refine end_nil ⟨k - 1, by omega, a + 1, b, v, by omega, hb, ?_, ?_, ?_, ?_, hlow', hup', by rw [hL]; exact A, rfl, rfl⟩
      · simp only [go_sem, k0]
      · simp only [go_sem, k3]
      · simp only [go_sem, k4]
      · simp only [go_sem, ew]

/-- squares -/
theorem squares58 {n : Nat} (hn : n ≤ 1000000) (h : SHeap) : M.call 58 [.int .i64 n] h = some (resV h (sqs n).length 2, resH h (prs (sqs n)) (sqs n).length 34, []) := by
  refine call_run sf58 rfl rfl rfl ?_
  unfold sf58
  repeat (first | apply run_seq | apply run_block | apply end_seq | apply end_blk_hit | apply end_blk_miss rfl | apply end_blk | apply end_seq_exit | apply end_seq_ret | apply end_blk_ret | apply run_skip | apply run_ret | apply run_exit | (apply run_region (by decide); (simp only [go_sem, argR]; rfl)) | (apply run_regionN (by decide); (simp only [go_sem, argR]; rfl)) | (refine run_cond_t ?_ ?_; · simp only [go_sem]) | (refine run_cond_f ?_ ?_; · simp only [go_sem]))
  refine run_loop (rise_loop _ hn h (.slice none 0 0) n _ _ _ _ ⟨0, by omega, ?_, ?_, ?_, rfl, rfl, rfl⟩) ?_
  · simp only [go_sem, argR]
  · simp only [go_sem]
  · (simp only [go_sem]) <;> rfl
  rintro ex ρ' ms' h1 d1 ⟨rfl, rfl, rfl, rfl, b, hb, k0, k3, k4, hbn⟩
  repeat (first | apply run_seq | apply run_block | apply end_seq | apply end_blk_hit | apply end_blk_miss rfl | apply end_blk | apply end_seq_exit | apply end_seq_ret | apply end_blk_ret | apply run_skip | apply run_ret | apply run_exit | (apply run_region (by decide); (simp only [go_sem]; rfl)) | (apply run_regionN (by decide); (simp only [go_sem]; rfl)) | (refine run_cond_t ?_ ?_; · simp only [go_sem]) | (refine run_cond_f ?_ ?_; · simp only [go_sem]))
  refine run_loop (squares_loop _ hn h1 (n + 1) _ _ _ _ ⟨0, b, .slice none 0 0, by omega, hb, ?_, ?_, ?_, ?_, fun c hc => by omega, fun c hc => ?_, AccS.nil0 h1 2 34, rfl, rfl⟩) ?_
  · simp only [go_sem, k0]
  · simp only [go_sem, k3]
  · simp only [go_sem, k4]
  · (simp only [go_sem]) <;> rfl
  · have := sq_mono hc; omega
  rintro ex ρ2 ms2 h2 d2 ⟨rfl, rfl, rfl, v, k3, A⟩
  repeat (first | apply run_seq | apply run_block | apply end_seq | apply end_blk_hit | apply end_blk_miss rfl | apply end_blk | apply end_seq_exit | apply end_seq_ret | apply end_blk_ret | apply run_skip | apply run_ret | apply run_exit | (apply run_region (by decide); (simp only [go_sem, k3]; rfl)) | (apply run_regionN (by decide); (simp only [go_sem, k3]; rfl)) | (refine run_cond_t ?_ ?_; · simp only [go_sem]) | (refine run_cond_f ?_ ?_; · simp only [go_sem]))
  have A' : AccS (h1 ++ []) h2 v (prs (sqs n)) (sqs n).length 2 34 := by rw [List.append_nil]; exact A
  exact end_nil (A'.q1 rfl rfl (by simp only [go_sem]))

/-- Squares -/
theorem squares17 {n : Nat} (hn : n ≤ 1000000) (h : SHeap) : M.call 17 [.int .i64 n] h = some (.tuple #[resV h (sqs n).length 2, .int .i64 0], resH h (prs (sqs n)) (sqs n).length 34, []) := by
  have c58 := squares58 hn h
  have A := AccS.ofRes h 34 (cs := prs (sqs n)) (n := (sqs n).length) (s := 2) (by rw [prs_len]; omega) (prs_sc _)
  generalize hu : resV h (sqs n).length 2 = u at *
  generalize hH : resH h (prs (sqs n)) (sqs n).length 34 = H' at *
  have e1 : ¬ ((n : Int) < 0) := by omega
  have e2 : ¬ ((1000000 : Int) < n) := by omega
  refine call_run sf17 rfl rfl rfl ?_
  unfold sf17
  repeat (first | apply run_seq | apply run_block | apply end_seq | apply end_blk_hit | apply end_blk_miss rfl | apply end_blk | apply end_seq_exit | apply end_seq_ret | apply end_blk_ret | apply run_skip | apply run_ret | apply run_exit | (apply run_region (by decide); (simp only [go_sem, argR, e1, e2, c58]; rfl)) | (apply run_regionN (by decide); (simp only [go_sem, argR, e1, e2, c58]; rfl)) | (refine run_cond_t ?_ ?_; · simp only [go_sem]) | (refine run_cond_f ?_ ?_; · simp only [go_sem]))
  have A' : AccS (h ++ []) H' u (prs (sqs n)) (sqs n).length 2 34 := by rw [List.append_nil]; exact A
  exact end_nil (A'.q2 (.int .i64 0) (by rw [hu]) hH.symm (by simp only [go_sem]) (by simp only [go_sem]) rfl)
end Go.Proofs.YtdmfhdnpakgkpaaDoor.Sh

