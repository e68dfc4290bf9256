/- GaussMuls: numbers out of any pairs; the law. -/
import Derived.Test.YtdmfhdnpakgkpaaDoorH19
import Derived.Test.YtdmfhdnpakgkpaaDoorGd
set_option linter.all false
namespace Go.Proofs.YtdmfhdnpakgkpaaDoor.Sh
open Go
set_option maxRecDepth 100000
set_option maxHeartbeats 4000000

theorem wrapU {x : Int} (h1 : 0 ≤ x) (h2 : x ≤ 18446744073709551615) : IntKind.u64.wrap x = x := by
  have e1 : IntKind.u64.wrap x = x % 18446744073709551616 := by simp [IntKind.wrap, IntKind.signed, IntKind.bits]
  rw [e1]; omega
/-- a number out of any pair -/
def tameP (x : Int × Int) (m : Int) : Int × Int := ((IntKind.u64.wrap x.1).tmod (2 * m + 1) - m, (IntKind.u64.wrap x.2).tmod (2 * m + 1) - m)
theorem tame29 (x : Int × Int) {m : Int} (h0 : 0 ≤ m) (h1 : m ≤ 1000000000) (h : SHeap) : M.call 29 [agV x, .int .i64 m] h = some (agV (tameP x m), h, []) := by
  obtain ⟨a, b⟩ := u64_mod' x.1 (2 * m + 1) (by omega)
  obtain ⟨c, d⟩ := u64_mod' x.2 (2 * m + 1) (by omega)
  have w1 : IntKind.i64.wrap (2 * m) = 2 * m := wrap64 (by omega) (by omega)
  have w2 : IntKind.i64.wrap (2 * m + 1) = 2 * m + 1 := wrap64 (by omega) (by omega)
  have w3 : IntKind.u64.wrap (2 * m + 1) = 2 * m + 1 := wrapU (by omega) (by omega)
  have z : ¬ (2 * m + 1 = 0) := by omega
  have e1 : IntKind.i64.wrap ((IntKind.u64.wrap x.1).tmod (2 * m + 1)) = (IntKind.u64.wrap x.1).tmod (2 * m + 1) := wrap64 (by omega) (by omega)
  have e2 : IntKind.i64.wrap ((IntKind.u64.wrap x.2).tmod (2 * m + 1)) = (IntKind.u64.wrap x.2).tmod (2 * m + 1) := wrap64 (by omega) (by omega)
  have e3 : IntKind.i64.wrap ((IntKind.u64.wrap x.1).tmod (2 * m + 1) - m) = (tameP x m).1 := wrap64 (by omega) (by omega)
  have e4 : IntKind.i64.wrap ((IntKind.u64.wrap x.2).tmod (2 * m + 1) - m) = (tameP x m).2 := wrap64 (by omega) (by omega)
  refine call_run sf29 rfl rfl rfl ?_
  unfold sf29
  repeat (first | apply run_seq | apply run_block | apply end_seq | apply end_blk_hit | apply end_blk_miss rfl | apply end_blk | apply end_seq_exit | apply end_seq_ret | apply end_blk_ret | apply run_skip | apply run_ret | apply run_exit | (apply run_region (by decide); (simp (maxSteps := 9999999) only [go_sem, argR, w1, w2, w3, z, e1, e2, e3, e4]; rfl)) | (apply run_regionN (by decide); (simp (maxSteps := 9999999) only [go_sem, argR, w1, w2, w3, z, e1, e2, e3, e4]; rfl)) | (refine run_cond_t ?_ ?_; · simp only [go_sem]) | (refine run_cond_f ?_ ?_; · simp only [go_sem]))
  exact end_nil (q_free [agV (tameP x m)] (by simp (maxSteps := 9999999) only [go_sem]) rfl rfl rfl (fun _ => rfl) (take_app _ _) rfl)
end Go.Proofs.YtdmfhdnpakgkpaaDoor.Sh

