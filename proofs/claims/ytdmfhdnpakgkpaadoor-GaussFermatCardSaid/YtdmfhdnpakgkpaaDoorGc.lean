/- Roots of -1: the program's, the document's, and the law. -/
import Derived.Test.YtdmfhdnpakgkpaaDoorGb
set_option linter.all false
namespace Go.Proofs.YtdmfhdnpakgkpaaDoor.Sh
open Go
set_option maxRecDepth 100000

/-- the least root of -1, or 0 -/
def rootN (p : Nat) : Nat := ((List.range p).find? fun x => (x * x + 1) % p == 0).getD 0
theorem root_at {p x : Nat} (hx : x < p) (h1 : (x * x + 1) % p = 0) (h2 : ∀ y, y < x → ¬ (y * y + 1) % p = 0) : rootN p = x := by
  unfold rootN
  have : (List.range p).find? (fun x => (x * x + 1) % p == 0) = some x := by
    rw [List.find?_range_eq_some]
    exact ⟨by simpa using h1, by simpa using hx, fun j hj => by simpa using h2 j hj⟩
  rw [this]; rfl
theorem root_no {p : Nat} (h2 : ∀ y, y < p → ¬ (y * y + 1) % p = 0) : rootN p = 0 := by
  unfold rootN
  have : (List.range p).find? (fun x => (x * x + 1) % p == 0) = none := by
    rw [List.find?_eq_none]
    intro x hx
    have := h2 x (List.mem_range.1 hx)
    simpa using this
  rw [this]; rfl
theorem sq_step {x p : Nat} (hx : x ≤ 1000001) : IntKind.i64.wrap ((x : Int) * x) = ((x * x : Nat) : Int) ∧ IntKind.i64.wrap (((x * x : Nat) : Int) + 1) = ((x * x + 1 : Nat) : Int) ∧ (((x * x + 1 : Nat) : Int)).tmod (p : Int) = (((x * x + 1) % p : Nat) : Int) := by
  have h1 : x * x ≤ 1000001 * 1000001 := Nat.mul_le_mul hx hx
  refine ⟨?_, ?_, ?_⟩
  · rw [← Int.natCast_mul, wrap64 (by omega) (by omega)]
  · rw [wrap64 (by omega) (by omega)]; rfl
  · rw [Int.tmod_eq_emod_of_nonneg (by omega)]; rfl

theorem root_loop (cx : Cx) {p : Nat} (h2 : 2 ≤ p) (hp : p ≤ 1000000) (H : SHeap) : ∀ k ρ ms h' d', (∃ x : Nat, x + k = p + 1 ∧ 1 ≤ x ∧ ρ 0 = .int .i64 p ∧ ρ 4 = .int .i64 x ∧ (∀ y, y < x → ¬ (y * y + 1) % p = 0) ∧ ms = [] ∧ h' = H ∧ d' = []) →
    LoopW M cx 5 sf23L0 ρ ms h' d' (fun ex ρ' ms' h' d' => ms' = [] ∧ h' = H ∧ d' = [] ∧ ((ex = .exit 0 ∧ rootN p = 0) ∨ (ex = .ret ∧ 1 ≤ rootN p ∧ ρ' 2 = .int .i64 (rootN p) ∧ ρ' 3 = .int .i64 0))) := by
  refine loop_run _ ?_
  rintro k ρ ms h' d' ⟨x, hx, h1, r0, r4, hno, rfl, rfl, rfl⟩
  unfold sf23L0
  by_cases hk : k = 0
  · have e1 : ¬ ((x : Int) ≤ p) := by omega
    repeat (first | apply run_seq | apply run_block | apply end_seq | apply end_blk_hit | apply end_blk_miss rfl | apply end_blk | apply end_seq_exit | apply end_seq_ret | apply end_blk_ret | apply run_skip | apply run_ret | apply run_exit | (apply run_region (by decide); (simp only [go_sem, r0, r4, e1]; rfl)) | (apply run_regionN (by decide); (simp only [go_sem, r0, r4, e1]; rfl)) | (refine run_cond_t ?_ ?_; · simp only [go_sem]) | (refine run_cond_f ?_ ?_; · simp only [go_sem]))
    exact end_nil ⟨rfl, rfl, rfl, .inl ⟨rfl, root_no (fun y hy => hno y (by omega))⟩⟩
  · have e1 : (x : Int) ≤ p := by omega
    obtain ⟨w1, w2, w3⟩ := sq_step (x := x) (p := p) (by omega)
    have hz : ¬ ((p : Int) = 0) := by omega
    have ew : IntKind.i64.wrap ((x : Int) + 1) = ((x + 1 : Nat) : Int) := by rw [wrap64 (by omega) (by omega)]; rfl
    by_cases hc : (x * x + 1) % p = 0
    · have hxp : x < p := by
        by_cases e : x = p
        · exfalso
          subst e
          rw [Nat.mul_add_mod, Nat.mod_eq_of_lt (by omega)] at hc
          omega
        · omega
      have hr := root_at hxp hc hno
      rw [hc] at w3
      repeat (first | apply run_seq | apply run_block | apply end_seq | apply end_blk_hit | apply end_blk_miss rfl | apply end_blk | apply end_seq_exit | apply end_seq_ret | apply end_blk_ret | apply run_skip | apply run_ret | apply run_exit | (apply run_region (by decide); (simp only [go_sem, r0, r4, e1, w1, w2, w3, hz]; rfl)) | (apply run_regionN (by decide); (simp only [go_sem, r0, r4, e1, w1, w2, w3, hz]; rfl)) | (refine run_cond_t ?_ ?_; · simp only [go_sem]) | (refine run_cond_f ?_ ?_; · simp only [go_sem]))
      refine end_nil ⟨rfl, rfl, rfl, .inr ⟨rfl, by omega, ?_, ?_⟩⟩
      · rw [hr]; simp only [go_sem]
      · simp only [go_sem]
    · have hc' : ¬ ((((x * x + 1) % p : Nat) : Int) = 0) := by omega
      generalize hq : (x * x + 1) % p = q at *
      repeat (first | apply run_seq | apply run_block | apply end_seq | apply end_blk_hit | apply end_blk_miss rfl | apply end_blk | apply end_seq_exit | apply end_seq_ret | apply end_blk_ret | apply run_skip | apply run_ret | apply run_exit | (apply run_region (by decide); (simp only [go_sem, r0, r4, e1, w1, w2, w3, hz, hc', ew]; rfl)) | (apply run_regionN (by decide); (simp only [go_sem, r0, r4, e1, w1, w2, w3, hz, hc', ew]; rfl)) | (refine run_cond_t ?_ ?_; · simp only [go_sem]) | (refine run_cond_f ?_ ?_; · simp only [go_sem]))
      refine end_nil ⟨k - 1, by omega, x + 1, by omega, by omega, ?_, ?_, fun y hy => ?_, rfl, rfl, rfl⟩
      · simp only [go_sem, r0]
      · simp only [go_sem, ew]
      · by_cases e : y = x
        · subst e; rw [hq]; exact hc
        · exact hno y (by omega)

/-- Root -/
theorem root23 {p : Nat} (h2 : 2 ≤ p) (hp : p ≤ 1000000) (h : SHeap) : M.call 23 [.int .i64 p] h = some (.tuple #[.int .i64 (rootN p), .int .i64 (if rootN p = 0 then 4 else 0)], h, []) := by
  have e1 : ¬ ((p : Int) < 2) := by omega
  have e2 : ¬ ((1000000 : Int) < p) := by omega
  refine call_run sf23 rfl rfl rfl ?_
  unfold sf23
  repeat (first | apply run_seq | apply run_block | apply end_seq | apply end_blk_hit | apply end_blk_miss rfl | apply end_blk | apply end_seq_exit | apply end_seq_ret | apply end_blk_ret | apply run_skip | apply run_ret | apply run_exit | (apply run_region (by decide); (simp only [go_sem, argR, e1, e2]; rfl)) | (apply run_regionN (by decide); (simp only [go_sem, argR, e1, e2]; rfl)) | (refine run_cond_t ?_ ?_; · simp only [go_sem]) | (refine run_cond_f ?_ ?_; · simp only [go_sem]))
  refine run_loop (root_loop _ h2 hp h p _ _ _ _ ⟨1, by omega, by omega, by simp only [go_sem, argR], by (simp only [go_sem]) <;> rfl, fun y hy => ?_, rfl, rfl, rfl⟩) ?_
  · have : y = 0 := by omega
    subst this
    rw [Nat.mod_eq_of_lt (by omega)]
    omega
  rintro ex ρ' ms' h1 d1 ⟨rfl, rfl, rfl, ⟨rfl, h0⟩ | ⟨rfl, h0, k2, k3⟩⟩
  · rw [h0]
    repeat (first | apply run_seq | apply run_block | apply end_seq | apply end_blk_hit | apply end_blk_miss rfl | apply end_blk | apply end_seq_exit | apply end_seq_ret | apply end_blk_ret | apply run_skip | apply run_ret | apply run_exit | (apply run_region (by decide); (simp only [go_sem]; rfl)) | (apply run_regionN (by decide); (simp only [go_sem]; rfl)) | (refine run_cond_t ?_ ?_; · simp only [go_sem]) | (refine run_cond_f ?_ ?_; · simp only [go_sem]))
    exact end_nil (q_ret2 _ _ (by simp only [go_sem]) (by simp only [go_sem]) rfl rfl (take_self _))
  · rw [if_neg (by omega)]
    repeat (first | apply run_seq | apply run_block | apply end_seq | apply end_blk_hit | apply end_blk_miss rfl | apply end_blk | apply end_seq_exit | apply end_seq_ret | apply end_blk_ret | apply run_skip | apply run_ret | apply run_exit | (apply run_region (by decide); (simp only [go_sem]; rfl)) | (apply run_regionN (by decide); (simp only [go_sem]; rfl)) | (refine run_cond_t ?_ ?_; · simp only [go_sem]) | (refine run_cond_f ?_ ?_; · simp only [go_sem]))
    exact end_nil (q_ret2 _ _ k2 k3 rfl rfl (take_self _))
end Go.Proofs.YtdmfhdnpakgkpaaDoor.Sh

