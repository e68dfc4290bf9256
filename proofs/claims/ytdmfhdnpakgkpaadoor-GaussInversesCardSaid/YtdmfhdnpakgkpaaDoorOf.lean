/- Bezout in all cases; GaussGcds: the law. -/
import Derived.Test.YtdmfhdnpakgkpaaDoorOe
set_option linter.all false
namespace Go.Proofs.YtdmfhdnpakgkpaaDoor.Sh
open Go
set_option maxRecDepth 100000
set_option maxHeartbeats 4000000

theorem fir_bd {r : Int × Int} {A : Int} (h : Bd A r) : Bd A (firP r).1 := by
  unfold firP firstU
  dsimp only
  split
  · rw [mul_one]; exact h
  · split
    · exact turn_bd' h
    · split
      · unfold Bd at *; rw [mul_m]; dsimp only; omega
      · split
        · exact turn_bd h
        · rw [mul_one]; exact h
theorem bezout48_0 {a : Int × Int} (ha : Bd 30000 a) (h : SHeap) : ∃ u v, BR a (0, 0) u v ∧ M.call 48 [agV a, agV (0, 0)] h = some (.tuple #[agV (gcdP a (0, 0)), agV u, agV v, .int .i64 0], h, []) := by
  have c64 := open2 a (0, 0) h [bx a, bz, bz, bz, bz, bs a (0, 0)] 5 rfl
  rw [if_pos ⟨ha, by decide⟩] at c64
  have c73 := fun h => first73 (x := a) (ha.mono (by decide)) h
  have eg : gcdP a (0, 0) = (firP a).1 := by unfold gcdP; rw [eu_0]
  rw [eg]
  by_cases z : a = (0, 0)
  · subst z
    have e0 : (firP (0, 0)).1 = (0, 0) := by decide
    refine ⟨(0, 0), (0, 0), ⟨by rw [eg]; decide, by decide, by decide⟩, ?_⟩
    have c73' : ∀ h, M.call 73 [.agg #[.int .i64 0, .int .i64 0]] h = some (.tuple #[.agg #[.int .i64 0, .int .i64 0], .agg #[.int .i64 1, .int .i64 0]], h, []) := fun h => by
      have := c73 h
      rw [firP_0] at this
      exact this
    refine call_run sf48 rfl rfl rfl ?_
    unfold sf48
    repeat (first | apply run_seq | apply run_block | apply end_seq | apply end_blk_hit | apply end_blk_miss rfl | apply end_blk | apply end_seq_exit | apply end_seq_ret | apply end_blk_ret | apply run_skip | apply run_ret | apply run_exit | (apply run_region (by decide); (simp (maxSteps := 9999999) only [go_sem, argR, c64, c73', Nat.add_assoc]; rfl)) | (apply run_regionN (by decide); (simp (maxSteps := 9999999) only [go_sem, argR, c64, c73', Nat.add_assoc]; rfl)) | (refine run_cond_t ?_ ?_; · simp only [go_sem]) | (refine run_cond_f ?_ ?_; · simp only [go_sem]))
    exact end_nil (q_free [agV (0, 0), agV (0, 0), agV (0, 0), .int .i64 0] (by simp (maxSteps := 9999999) only [go_sem]) rfl rfl rfl (fun _ => rfl) (take_app _ _) rfl)
  · have z' : ((firP a).1 = (0, 0)) = False := eq_false (fir_ne z)
    have bfu : Bd 1 (firP a).2 := by
      have := firU_bd a
      unfold firP Bd conjP at *; dsimp only at *; omega
    have c78 := fun h => turned78 bfu (by decide) h
    have ecj : conjP (firP a).2 = firstU a := conj_conj _
    rw [ecj] at c78
    refine ⟨firstU a, (0, 0), ⟨by rw [eg, fir_mul, zero_mul', mul_comm']; unfold addP; refine Prod.ext ?_ ?_ <;> dsimp only <;> omega, (firU_bd a).mono (by decide), by decide⟩, ?_⟩
    refine call_run sf48 rfl rfl rfl ?_
    unfold sf48
    repeat (first | apply run_seq | apply run_block | apply end_seq | apply end_blk_hit | apply end_blk_miss rfl | apply end_blk | apply end_seq_exit | apply end_seq_ret | apply end_blk_ret | apply run_skip | apply run_ret | apply run_exit | (apply run_region (by decide); (simp (maxSteps := 9999999) only [go_sem, argR, c64, c73, z', c78, Nat.add_assoc]; rfl)) | (apply run_regionN (by decide); (simp (maxSteps := 9999999) only [go_sem, argR, c64, c73, z', c78, Nat.add_assoc]; rfl)) | (refine run_cond_t ?_ ?_; · simp only [go_sem]) | (refine run_cond_f ?_ ?_; · simp only [go_sem]))
    exact end_nil (q_free [agV (firP a).1, agV (firstU a), agV (0, 0), .int .i64 0] (by simp (maxSteps := 9999999) only [go_sem]) rfl rfl rfl (fun _ => rfl) (take_app _ _) rfl)
/-- Bezout -/
theorem bezout {a b : Int × Int} (ha : Bd 30000 a) (hb : Bd 30000 b) (h : SHeap) : ∃ u v, BR a b u v ∧ M.call 48 [agV a, agV b] h = some (.tuple #[agV (gcdP a b), agV u, agV v, .int .i64 0], h, []) := by
  by_cases z : b = (0, 0)
  · subst z; exact bezout48_0 ha h
  · exact bezout48 ha hb z h
/-- the answer does not hang on the heap -/
theorem bezoutAt {a b : Int × Int} (ha : Bd 30000 a) (hb : Bd 30000 b) : ∃ F : SHeap → (Int × Int) × (Int × Int), ∀ h, BR a b (F h).1 (F h).2 ∧ M.call 48 [agV a, agV b] h = some (.tuple #[agV (gcdP a b), agV (F h).1, agV (F h).2, .int .i64 0], h, []) := by
  refine ⟨fun h => (Classical.choose (bezout ha hb h), Classical.choose (Classical.choose_spec (bezout ha hb h))), fun h => ?_⟩
  exact Classical.choose_spec (Classical.choose_spec (bezout ha hb h))

end Go.Proofs.YtdmfhdnpakgkpaaDoor.Sh

