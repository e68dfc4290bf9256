/- squares: the walk. -/
import Derived.Test.YtdmfhdnpakgkpaaDoorGe
set_option linter.all false
namespace Go.Proofs.YtdmfhdnpakgkpaaDoor.Sh
open Go
set_option maxRecDepth 100000

theorem mul_w {a b : Nat} (ha : a ≤ 1000001) (hb : b ≤ 1000001) : IntKind.i64.wrap ((a : Int) * b) = ((a * b : Nat) : Int) := by
  have h1 : a * b ≤ 1000001 * 1000001 := Nat.mul_le_mul ha hb
  rw [← Int.natCast_mul, wrap64 (by omega) (by omega)]
theorem add_w {x y : Nat} (hx : x ≤ 1000000000000000) (hy : y ≤ 1000000000000000) : IntKind.i64.wrap ((x : Int) + y) = ((x + y : Nat) : Int) := by
  rw [wrap64 (by omega) (by omega)]; rfl
theorem sq_le {b : Nat} (hb : b ≤ 1000001) : b * b ≤ 1000000000000000 := Nat.le_trans (Nat.mul_le_mul hb hb) (by decide)

theorem rise_loop (cx : Cx) {n : Nat} (hn : n ≤ 1000000) (H : SHeap) (v : Value) : ∀ k ρ ms h' d', (∃ b : Nat, b + k = n ∧ ρ 0 = .int .i64 n ∧ ρ 3 = v ∧ ρ 4 = .int .i64 b ∧ ms = [] ∧ h' = H ∧ d' = []) →
    LoopW M cx 6 sf58L2 ρ ms h' d' (fun ex ρ' ms' h' d' => ex = .exit 0 ∧ ms' = [] ∧ h' = H ∧ d' = [] ∧ ∃ b : Nat, b ≤ n ∧ ρ' 0 = .int .i64 n ∧ ρ' 3 = v ∧ ρ' 4 = .int .i64 b ∧ n ≤ b * b) := by
  refine loop_run _ ?_
  rintro k ρ ms h' d' ⟨b, hb, r0, r3, r4, rfl, rfl, rfl⟩
  unfold sf58L2
  have w1 := mul_w (a := b) (b := b) (by omega) (by omega)
  have hs := sq_self b
  by_cases hc : b * b < n
  · have e1 : ((b * b : Nat) : Int) < n := by omega
    have ew : IntKind.i64.wrap ((b : Int) + 1) = ((b + 1 : Nat) : Int) := by rw [wrap64 (by omega) (by omega)]; rfl
    repeat (first | apply run_seq | apply run_block | apply end_seq | apply end_blk_hit | apply end_blk_miss rfl | apply end_blk | apply end_seq_exit | apply end_seq_ret | apply end_blk_ret | apply run_skip | apply run_ret | apply run_exit | (apply run_region (by decide); (simp only [go_sem, r0, r4, w1, e1, ew]; rfl)) | (apply run_regionN (by decide); (simp only [go_sem, r0, r4, w1, e1, ew]; rfl)) | (refine run_cond_t ?_ ?_; · simp only [go_sem]) | (refine run_cond_f ?_ ?_; · simp only [go_sem]))
    refine end_nil ⟨k - 1, by omega, b + 1, by omega, ?_, ?_, ?_, rfl, rfl, rfl⟩
    · simp only [go_sem, r0]
    · simp only [go_sem, r3]
    · simp only [go_sem, ew]
  · have e1 : ¬ (((b * b : Nat) : Int) < n) := by omega
    repeat (first | apply run_seq | apply run_block | apply end_seq | apply end_blk_hit | apply end_blk_miss rfl | apply end_blk | apply end_seq_exit | apply end_seq_ret | apply end_blk_ret | apply run_skip | apply run_ret | apply run_exit | (apply run_region (by decide); (simp only [go_sem, r0, r4, w1, e1]; rfl)) | (apply run_regionN (by decide); (simp only [go_sem, r0, r4, w1, e1]; rfl)) | (refine run_cond_t ?_ ?_; · simp only [go_sem]) | (refine run_cond_f ?_ ?_; · simp only [go_sem]))
    refine end_nil ⟨rfl, rfl, rfl, rfl, b, by omega, ?_, ?_, ?_, by omega⟩
    · simp only [go_sem, r0]
    · simp only [go_sem, r3]
    · simp only [go_sem, r4]

theorem fall_loop (cx : Cx) {n a : Nat} (hn : n ≤ 1000000) (ha : a ≤ 1000001) (H : SHeap) (v : Value) : ∀ k ρ ms h' d', (∃ b : Nat, b = k ∧ b ≤ n ∧ ρ 0 = .int .i64 n ∧ ρ 3 = v ∧ ρ 4 = .int .i64 b ∧ ρ 5 = .int .i64 a ∧ (∀ c, b < c → n < a * a + c * c) ∧ ms = [] ∧ h' = H ∧ d' = []) →
    LoopW M cx 6 sf58L0 ρ ms h' d' (fun ex ρ' ms' h' d' => ex = .exit 4 ∧ ms' = [] ∧ h' = H ∧ d' = [] ∧ ∃ b : Nat, b ≤ n ∧ ρ' 0 = .int .i64 n ∧ ρ' 3 = v ∧ ρ' 4 = .int .i64 b ∧ ρ' 5 = .int .i64 a ∧ (∀ c, b < c → n < a * a + c * c) ∧ (b = 0 ∨ a * a + b * b ≤ n)) := by
  refine loop_run _ ?_
  rintro k ρ ms h' d' ⟨b, rfl, hb, r0, r3, r4, r5, hup, rfl, rfl, rfl⟩
  unfold sf58L0
  have w1 := mul_w (a := b) (b := b) (by omega) (by omega)
  have w2 := mul_w (a := a) (b := a) ha ha
  have w3 := add_w (sq_le ha) (sq_le (show b ≤ 1000001 by omega))
  by_cases h0 : b = 0
  · have e0 : ¬ ((0 : Int) < b) := by omega
    repeat (first | apply run_seq | apply run_block | apply end_seq | apply end_blk_hit | apply end_blk_miss rfl | apply end_blk | apply end_seq_exit | apply end_seq_ret | apply end_blk_ret | apply run_skip | apply run_ret | apply run_exit | (apply run_region (by decide); (simp only [go_sem, r0, r4, r5, w1, w2, w3, e0]; rfl)) | (apply run_regionN (by decide); (simp only [go_sem, r0, r4, r5, w1, w2, w3, e0]; rfl)) | (refine run_cond_t ?_ ?_; · simp only [go_sem]) | (refine run_cond_f ?_ ?_; · simp only [go_sem]))
    refine end_nil ⟨rfl, rfl, rfl, rfl, b, hb, ?_, ?_, ?_, ?_, hup, .inl h0⟩
    · simp only [go_sem, r0]
    · simp only [go_sem, r3]
    · simp only [go_sem, r4]
    · simp only [go_sem, r5]
  · have e0 : (0 : Int) < b := by omega
    by_cases hc : n < a * a + b * b
    · have e1 : (n : Int) < ((a * a + b * b : Nat) : Int) := by omega
      have ew : IntKind.i64.wrap ((b : Int) - 1) = ((b - 1 : Nat) : Int) := by rw [wrap64 (by omega) (by omega)]; omega
      repeat (first | apply run_seq | apply run_block | apply end_seq | apply end_blk_hit | apply end_blk_miss rfl | apply end_blk | apply end_seq_exit | apply end_seq_ret | apply end_blk_ret | apply run_skip | apply run_ret | apply run_exit | (apply run_region (by decide); (simp only [go_sem, r0, r4, r5, w1, w2, w3, e0, e1, ew]; rfl)) | (apply run_regionN (by decide); (simp only [go_sem, r0, r4, r5, w1, w2, w3, e0, e1, ew]; rfl)) | (refine run_cond_t ?_ ?_; · simp only [go_sem]) | (refine run_cond_f ?_ ?_; · simp only [go_sem]))
      refine end_nil ⟨b - 1, by omega, b - 1, rfl, by omega, ?_, ?_, ?_, ?_, fun c hc' => ?_, rfl, rfl, rfl⟩
      · simp only [go_sem, r0]
      · simp only [go_sem, r3]
      · simp only [go_sem, ew]
      · simp only [go_sem, r5]
      · by_cases e : c = b
        · subst e; exact hc
        · exact hup c (by omega)
    · have e1 : ¬ ((n : Int) < ((a * a + b * b : Nat) : Int)) := by omega
      repeat (first | apply run_seq | apply run_block | apply end_seq | apply end_blk_hit | apply end_blk_miss rfl | apply end_blk | apply end_seq_exit | apply end_seq_ret | apply end_blk_ret | apply run_skip | apply run_ret | apply run_exit | (apply run_region (by decide); (simp only [go_sem, r0, r4, r5, w1, w2, w3, e0, e1]; rfl)) | (apply run_regionN (by decide); (simp only [go_sem, r0, r4, r5, w1, w2, w3, e0, e1]; rfl)) | (refine run_cond_t ?_ ?_; · simp only [go_sem]) | (refine run_cond_f ?_ ?_; · simp only [go_sem]))
      refine end_nil ⟨rfl, rfl, rfl, rfl, b, hb, ?_, ?_, ?_, ?_, hup, .inr (by omega)⟩
      · simp only [go_sem, r0]
      · simp only [go_sem, r3]
      · simp only [go_sem, r4]
      · simp only [go_sem, r5]
end Go.Proofs.YtdmfhdnpakgkpaaDoor.Sh

