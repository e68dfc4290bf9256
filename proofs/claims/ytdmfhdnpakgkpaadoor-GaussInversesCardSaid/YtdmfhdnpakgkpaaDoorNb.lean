/- Numbers of the chapter: the program's norm, product, difference, quotient and rest. -/
import Derived.Test.YtdmfhdnpakgkpaaDoorNa
set_option linter.all false
namespace Go.Proofs.YtdmfhdnpakgkpaaDoor.Sh
open Go
set_option maxRecDepth 100000

/-- products that stay in the machine's range -/
structure MW (p q : Int × Int) : Prop where
  a : IntKind.i64.wrap (p.1 * q.1) = p.1 * q.1
  b : IntKind.i64.wrap (p.2 * q.2) = p.2 * q.2
  c : IntKind.i64.wrap (p.1 * q.2) = p.1 * q.2
  d : IntKind.i64.wrap (p.2 * q.1) = p.2 * q.1
  m : IntKind.i64.wrap (p.1 * q.1 - p.2 * q.2) = (mulP p q).1
  s : IntKind.i64.wrap (p.1 * q.2 + p.2 * q.1) = (mulP p q).2
theorem mw_of {p q : Int × Int} {A C : Int} (hp : Bd A p) (hq : Bd C q) (h : A * C ≤ 2305843009213693952) : MW p q ∧ Bd (2 * (A * C)) (mulP p q) := by
  obtain ⟨p1, p2, p3, p4⟩ := hp
  obtain ⟨q1, q2, q3, q4⟩ := hq
  have m1 := mul_bd p1 p2 q1 q2
  have m2 := mul_bd p3 p4 q3 q4
  have m3 := mul_bd p1 p2 q3 q4
  have m4 := mul_bd p3 p4 q1 q2
  refine ⟨⟨wrap64 (by omega) (by omega), wrap64 (by omega) (by omega), wrap64 (by omega) (by omega), wrap64 (by omega) (by omega), wrap64 (by omega) (by omega), wrap64 (by omega) (by omega)⟩, ?_⟩
  unfold Bd mulP
  dsimp only
  omega
theorem mulP_bd {p q : Int × Int} {A C : Int} (hp : Bd A p) (hq : Bd C q) : Bd (2 * (A * C)) (mulP p q) := by
  obtain ⟨p1, p2, p3, p4⟩ := hp
  obtain ⟨q1, q2, q3, q4⟩ := hq
  have m1 := mul_bd p1 p2 q1 q2
  have m2 := mul_bd p3 p4 q3 q4
  have m3 := mul_bd p1 p2 q3 q4
  have m4 := mul_bd p3 p4 q1 q2
  unfold Bd mulP
  dsimp only
  omega

/-- times -/
theorem times65 {p q : Int × Int} {A C : Int} (hp : Bd A p) (hq : Bd C q) (hAC : A * C ≤ 2305843009213693952) (h : SHeap) :
    M.call 65 [.agg #[.int .i64 p.1, .int .i64 p.2], .agg #[.int .i64 q.1, .int .i64 q.2]] h = some (.agg #[.int .i64 (mulP p q).1, .int .i64 (mulP p q).2], h, []) := by
  obtain ⟨w1, w2, w3, w4, w5, w6⟩ := (mw_of hp hq hAC).1
  refine call_run sf65 rfl rfl rfl ?_
  unfold sf65
  repeat (first | apply run_seq | apply run_block | apply end_seq | apply end_blk_hit | apply end_blk_miss rfl | apply end_blk | apply end_seq_exit | apply end_seq_ret | apply end_blk_ret | apply run_skip | apply run_ret | apply run_exit | (apply run_region (by decide); (simp (maxSteps := 9999999) only [go_sem, argR, w1, w2, w3, w4, w5, w6]; rfl)) | (apply run_regionN (by decide); (simp (maxSteps := 9999999) only [go_sem, argR, w1, w2, w3, w4, w5, w6]; rfl)) | (refine run_cond_t ?_ ?_; · simp only [go_sem]) | (refine run_cond_f ?_ ?_; · simp only [go_sem]))
  exact end_nil (q_cell [.int .i64 (mulP p q).1, .int .i64 (mulP p q).2] (by simp (maxSteps := 9999999) only [go_sem]) rfl ⟨_, by simp (maxSteps := 9999999) only [go_sem]; rfl⟩ (take_app _ _))

theorem sqn (a : Int) : 0 ≤ a * a := by rw [← Int.natAbs_mul_self]; exact Int.natCast_nonneg _
theorem nrm_w {p : Int × Int} {A : Int} (hp : Bd A p) (h : A * A ≤ 2305843009213693952) : IntKind.i64.wrap (p.1 * p.1) = p.1 * p.1 ∧ IntKind.i64.wrap (p.2 * p.2) = p.2 * p.2 ∧ IntKind.i64.wrap (p.1 * p.1 + p.2 * p.2) = nrm p ∧ 0 ≤ nrm p ∧ nrm p ≤ 2 * (A * A) := by
  obtain ⟨p1, p2, p3, p4⟩ := hp
  have m1 := mul_bd p1 p2 p1 p2
  have m2 := mul_bd p3 p4 p3 p4
  have s1 := sqn p.1
  have s2 := sqn p.2
  refine ⟨wrap64 (by omega) (by omega), wrap64 (by omega) (by omega), wrap64 (by omega) (by omega), ?_, ?_⟩
  · unfold nrm; omega
  · unfold nrm; omega
/-- norm -/
theorem norm59 {p : Int × Int} {A : Int} (hp : Bd A p) (hA : A * A ≤ 2305843009213693952) (h : SHeap) :
    M.call 59 [.agg #[.int .i64 p.1, .int .i64 p.2]] h = some (.int .i64 (nrm p), h, []) := by
  obtain ⟨w1, w2, w3, _, _⟩ := nrm_w hp hA
  refine call_run sf59 rfl rfl rfl ?_
  unfold sf59
  repeat (first | apply run_seq | apply run_block | apply end_seq | apply end_blk_hit | apply end_blk_miss rfl | apply end_blk | apply end_seq_exit | apply end_seq_ret | apply end_blk_ret | apply run_skip | apply run_ret | apply run_exit | (apply run_region (by decide); (simp (maxSteps := 9999999) only [go_sem, argR, w1, w2, w3]; rfl)) | (apply run_regionN (by decide); (simp (maxSteps := 9999999) only [go_sem, argR, w1, w2, w3]; rfl)) | (refine run_cond_t ?_ ?_; · simp only [go_sem]) | (refine run_cond_f ?_ ?_; · simp only [go_sem]))
  exact end_nil (q_ret1 _ (by simp (maxSteps := 9999999) only [go_sem]) rfl (take_app _ _))

/-- minus -/
theorem minus79 {p q : Int × Int} {A C : Int} (hp : Bd A p) (hq : Bd C q) (hAC : A + C ≤ 4611686018427387904) (h : SHeap) :
    M.call 79 [.agg #[.int .i64 p.1, .int .i64 p.2], .agg #[.int .i64 q.1, .int .i64 q.2]] h = some (.agg #[.int .i64 (subP p q).1, .int .i64 (subP p q).2], h, []) := by
  obtain ⟨p1, p2, p3, p4⟩ := hp
  obtain ⟨q1, q2, q3, q4⟩ := hq
  have w1 : IntKind.i64.wrap (p.1 - q.1) = (subP p q).1 := wrap64 (by omega) (by omega)
  have w2 : IntKind.i64.wrap (p.2 - q.2) = (subP p q).2 := wrap64 (by omega) (by omega)
  refine call_run sf79 rfl rfl rfl ?_
  unfold sf79
  repeat (first | apply run_seq | apply run_block | apply end_seq | apply end_blk_hit | apply end_blk_miss rfl | apply end_blk | apply end_seq_exit | apply end_seq_ret | apply end_blk_ret | apply run_skip | apply run_ret | apply run_exit | (apply run_region (by decide); (simp (maxSteps := 9999999) only [go_sem, argR, w1, w2]; rfl)) | (apply run_regionN (by decide); (simp (maxSteps := 9999999) only [go_sem, argR, w1, w2]; rfl)) | (refine run_cond_t ?_ ?_; · simp only [go_sem]) | (refine run_cond_f ?_ ?_; · simp only [go_sem]))
  exact end_nil (q_cell [.int .i64 (subP p q).1, .int .i64 (subP p q).2] (by simp (maxSteps := 9999999) only [go_sem]) rfl ⟨_, by simp (maxSteps := 9999999) only [go_sem]; rfl⟩ (take_app _ _))

/-- turned -/
theorem turned78 {p : Int × Int} {A : Int} (hp : Bd A p) (hA : A ≤ 4611686018427387904) (h : SHeap) :
    M.call 78 [.agg #[.int .i64 p.1, .int .i64 p.2]] h = some (.agg #[.int .i64 (conjP p).1, .int .i64 (conjP p).2], h, []) := by
  obtain ⟨p1, p2, p3, p4⟩ := hp
  have w1 : IntKind.i64.wrap (-p.2) = (conjP p).2 := wrap64 (by omega) (by omega)
  have w2 : p.1 = (conjP p).1 := rfl
  refine call_run sf78 rfl rfl rfl ?_
  unfold sf78
  repeat (first | apply run_seq | apply run_block | apply end_seq | apply end_blk_hit | apply end_blk_miss rfl | apply end_blk | apply end_seq_exit | apply end_seq_ret | apply end_blk_ret | apply run_skip | apply run_ret | apply run_exit | (apply run_region (by decide); (simp (maxSteps := 9999999) only [go_sem, argR, w1]; rfl)) | (apply run_regionN (by decide); (simp (maxSteps := 9999999) only [go_sem, argR, w1]; rfl)) | (refine run_cond_t ?_ ?_; · simp only [go_sem]) | (refine run_cond_f ?_ ?_; · simp only [go_sem]))
  exact end_nil (q_cell [.int .i64 (conjP p).1, .int .i64 (conjP p).2] (by simp (maxSteps := 9999999) only [go_sem]; rfl) rfl ⟨_, by simp (maxSteps := 9999999) only [go_sem]; rfl⟩ (take_app _ _))

/-- the machine's quotient and rest make the one rounded down -/
theorem floor_eq {a b : Int} (hb : 0 < b) : (a.tmod b < 0 → a.tdiv b - 1 = a / b) ∧ (¬ a.tmod b < 0 → a.tdiv b = a / b) := by
  have h1 := Int.mul_tdiv_add_tmod a b
  have h2 := Int.tmod_lt_of_pos a hb
  have h3 := Int.lt_tmod_of_pos a hb
  have e0 : a.tdiv b * b = b * a.tdiv b := Int.mul_comm _ _
  constructor
  · intro h
    refine ((Int.ediv_eq_iff_of_pos hb).2 ?_).symm
    have e : (a.tdiv b - 1) * b = a.tdiv b * b - b := by rw [Int.sub_mul, Int.one_mul]
    omega
  · intro h
    refine ((Int.ediv_eq_iff_of_pos hb).2 ?_).symm
    omega
theorem ediv_bd {a b A : Int} (hb : 0 < b) (h1 : -A ≤ a) (h2 : a ≤ A) : -A ≤ a / b ∧ a / b ≤ A := by
  have hA : 0 ≤ A := by omega
  constructor
  · rw [Int.le_ediv_iff_mul_le hb]
    have : A * 1 ≤ A * b := Int.mul_le_mul_of_nonneg_left (by omega) hA
    rw [Int.neg_mul]; omega
  · by_cases e : 0 ≤ a
    · have := Int.ediv_le_self b e; omega
    · have := Int.ediv_neg_of_neg_of_pos (show a < 0 by omega) hb; omega
/-- floor -/
theorem floor80 {a b A : Int} (hb : 0 < b) (h1 : -A ≤ a) (h2 : a ≤ A) (hA : A ≤ 4611686018427387904) (h : SHeap) :
    M.call 80 [.int .i64 a, .int .i64 b] h = some (.int .i64 (a / b), h, []) := by
  obtain ⟨f1, f2⟩ := floor_eq (a := a) hb
  obtain ⟨b1, b2⟩ := ediv_bd hb h1 h2
  have hb0 : ¬ b = 0 := by omega
  refine call_run sf80 rfl rfl rfl ?_
  unfold sf80
  by_cases c : a.tmod b < 0
  · have e := f1 c
    have w1 : IntKind.i64.wrap (a.tdiv b) = a.tdiv b := wrap64 (by omega) (by omega)
    have w2 : IntKind.i64.wrap (a.tdiv b - 1) = a / b := by rw [wrap64 (by omega) (by omega), e]
    repeat (first | apply run_seq | apply run_block | apply end_seq | apply end_blk_hit | apply end_blk_miss rfl | apply end_blk | apply end_seq_exit | apply end_seq_ret | apply end_blk_ret | apply run_skip | apply run_ret | apply run_exit | (apply run_region (by decide); (simp (maxSteps := 9999999) only [go_sem, argR, hb0, c, w1, w2]; rfl)) | (apply run_regionN (by decide); (simp (maxSteps := 9999999) only [go_sem, argR, hb0, c, w1, w2]; rfl)) | (refine run_cond_t ?_ ?_; · simp only [go_sem]) | (refine run_cond_f ?_ ?_; · simp only [go_sem]))
    exact end_nil (q_ret1 _ (by simp (maxSteps := 9999999) only [go_sem]) rfl (take_self _))
  · have e := f2 c
    have w1 : IntKind.i64.wrap (a.tdiv b) = a / b := by rw [wrap64 (by omega) (by omega), e]
    repeat (first | apply run_seq | apply run_block | apply end_seq | apply end_blk_hit | apply end_blk_miss rfl | apply end_blk | apply end_seq_exit | apply end_seq_ret | apply end_blk_ret | apply run_skip | apply run_ret | apply run_exit | (apply run_region (by decide); (simp (maxSteps := 9999999) only [go_sem, argR, hb0, c, w1]; rfl)) | (apply run_regionN (by decide); (simp (maxSteps := 9999999) only [go_sem, argR, hb0, c, w1]; rfl)) | (refine run_cond_t ?_ ?_; · simp only [go_sem]) | (refine run_cond_f ?_ ?_; · simp only [go_sem]))
    exact end_nil (q_ret1 _ (by simp (maxSteps := 9999999) only [go_sem]) rfl (take_self _))
end Go.Proofs.YtdmfhdnpakgkpaaDoor.Sh

