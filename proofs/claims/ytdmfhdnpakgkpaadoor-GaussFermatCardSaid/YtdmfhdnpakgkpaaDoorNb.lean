/- Numbers of the chapter: the program's norm, product, difference, quotient and rest. -/
import Derived.Test.YtdmfhdnpakgkpaaDoorNa
set_option linter.all false
namespace Go.Proofs.YtdmfhdnpakgkpaaDoor.Sh
open Go
set_option maxRecDepth 100000

/-- products that stay in the machine's range -/
structure MW (p q : Int × Int) : Prop where
  a : IntKind.i64.wrap (p.1 * q.1) = p.1 * q.1
  b : IntKind.i64.wrap (p.2 * q.2) = p.2 * q.2
  c : IntKind.i64.wrap (p.1 * q.2) = p.1 * q.2
  d : IntKind.i64.wrap (p.2 * q.1) = p.2 * q.1
  m : IntKind.i64.wrap (p.1 * q.1 - p.2 * q.2) = (mulP p q).1
  s : IntKind.i64.wrap (p.1 * q.2 + p.2 * q.1) = (mulP p q).2
theorem sqn (a : Int) : 0 ≤ a * a := by rw [← Int.natAbs_mul_self]; exact Int.natCast_nonneg _
theorem nrm_w {p : Int × Int} {A : Int} (hp : Bd A p) (h : A * A ≤ 2305843009213693952) : IntKind.i64.wrap (p.1 * p.1) = p.1 * p.1 ∧ IntKind.i64.wrap (p.2 * p.2) = p.2 * p.2 ∧ IntKind.i64.wrap (p.1 * p.1 + p.2 * p.2) = nrm p ∧ 0 ≤ nrm p ∧ nrm p ≤ 2 * (A * A) := by
  obtain ⟨p1, p2, p3, p4⟩ := hp
  have m1 := mul_bd p1 p2 p1 p2
  have m2 := mul_bd p3 p4 p3 p4
  have s1 := sqn p.1
  have s2 := sqn p.2
  refine ⟨wrap64 (by omega) (by omega), wrap64 (by omega) (by omega), wrap64 (by omega) (by omega), ?_, ?_⟩
  · unfold nrm; omega
  · unfold nrm; omega
/-- norm -/
theorem norm59 {p : Int × Int} {A : Int} (hp : Bd A p) (hA : A * A ≤ 2305843009213693952) (h : SHeap) :
    M.call 59 [.agg #[.int .i64 p.1, .int .i64 p.2]] h = some (.int .i64 (nrm p), h, []) := by
  obtain ⟨w1, w2, w3, _, _⟩ := nrm_w hp hA
  refine call_run sf59 rfl rfl rfl ?_
  unfold sf59
  repeat (first | apply run_seq | apply run_block | apply end_seq | apply end_blk_hit | apply end_blk_miss rfl | apply end_blk | apply end_seq_exit | apply end_seq_ret | apply end_blk_ret | apply run_skip | apply run_ret | apply run_exit | (apply run_region (by decide); (simp only [go_sem, argR, w1, w2, w3]; rfl)) | (apply run_regionN (by decide); (simp only [go_sem, argR, w1, w2, w3]; rfl)) | (refine run_cond_t ?_ ?_; · simp only [go_sem]) | (refine run_cond_f ?_ ?_; · simp only [go_sem]))
  exact end_nil (q_ret1 _ (by simp only [go_sem]) rfl (take_app _ _))

end Go.Proofs.YtdmfhdnpakgkpaaDoor.Sh

