/- GaussMuls: numbers out of any pairs; the law. -/
import Derived.Test.YtdmfhdnpakgkpaaDoorH19
import Derived.Test.YtdmfhdnpakgkpaaDoorGd
set_option linter.all false
namespace Go.Proofs.YtdmfhdnpakgkpaaDoor.Sh
open Go
set_option maxRecDepth 100000
set_option maxHeartbeats 4000000

theorem wrapU {x : Int} (h1 : 0 ≤ x) (h2 : x ≤ 18446744073709551615) : IntKind.u64.wrap x = x := by
  have e1 : IntKind.u64.wrap x = x % 18446744073709551616 := by simp [IntKind.wrap, IntKind.signed, IntKind.bits]
  rw [e1]; omega
/-- a number out of any pair -/
def tameP (x : Int × Int) (m : Int) : Int × Int := ((IntKind.u64.wrap x.1).tmod (2 * m + 1) - m, (IntKind.u64.wrap x.2).tmod (2 * m + 1) - m)
theorem tame_bd (x : Int × Int) {m : Int} (hm : 0 ≤ m) : Bd m (tameP x m) := by
  obtain ⟨a, b⟩ := u64_mod' x.1 (2 * m + 1) (by omega)
  obtain ⟨c, d⟩ := u64_mod' x.2 (2 * m + 1) (by omega)
  unfold tameP
  refine ⟨?_, ?_, ?_, ?_⟩ <;> dsimp only <;> omega
theorem tame29 (x : Int × Int) {m : Int} (h0 : 0 ≤ m) (h1 : m ≤ 1000000000) (h : SHeap) : M.call 29 [agV x, .int .i64 m] h = some (agV (tameP x m), h, []) := by
  obtain ⟨a, b⟩ := u64_mod' x.1 (2 * m + 1) (by omega)
  obtain ⟨c, d⟩ := u64_mod' x.2 (2 * m + 1) (by omega)
  have w1 : IntKind.i64.wrap (2 * m) = 2 * m := wrap64 (by omega) (by omega)
  have w2 : IntKind.i64.wrap (2 * m + 1) = 2 * m + 1 := wrap64 (by omega) (by omega)
  have w3 : IntKind.u64.wrap (2 * m + 1) = 2 * m + 1 := wrapU (by omega) (by omega)
  have z : ¬ (2 * m + 1 = 0) := by omega
  have e1 : IntKind.i64.wrap ((IntKind.u64.wrap x.1).tmod (2 * m + 1)) = (IntKind.u64.wrap x.1).tmod (2 * m + 1) := wrap64 (by omega) (by omega)
  have e2 : IntKind.i64.wrap ((IntKind.u64.wrap x.2).tmod (2 * m + 1)) = (IntKind.u64.wrap x.2).tmod (2 * m + 1) := wrap64 (by omega) (by omega)
  have e3 : IntKind.i64.wrap ((IntKind.u64.wrap x.1).tmod (2 * m + 1) - m) = (tameP x m).1 := wrap64 (by omega) (by omega)
  have e4 : IntKind.i64.wrap ((IntKind.u64.wrap x.2).tmod (2 * m + 1) - m) = (tameP x m).2 := wrap64 (by omega) (by omega)
  refine call_run sf29 rfl rfl rfl ?_
  unfold sf29
  repeat (first | apply run_seq | apply run_block | apply end_seq | apply end_blk_hit | apply end_blk_miss rfl | apply end_blk | apply end_seq_exit | apply end_seq_ret | apply end_blk_ret | apply run_skip | apply run_ret | apply run_exit | (apply run_region (by decide); (simp (maxSteps := 9999999) only [go_sem, argR, w1, w2, w3, z, e1, e2, e3, e4]; rfl)) | (apply run_regionN (by decide); (simp (maxSteps := 9999999) only [go_sem, argR, w1, w2, w3, z, e1, e2, e3, e4]; rfl)) | (refine run_cond_t ?_ ?_; · simp only [go_sem]) | (refine run_cond_f ?_ ?_; · simp only [go_sem]))
  exact end_nil (q_free [agV (tameP x m)] (by simp (maxSteps := 9999999) only [go_sem]) rfl rfl rfl (fun _ => rfl) (take_app _ _) rfl)
/-- the same, but not 0 -/
def someP (x : Int × Int) (m : Int) : Int × Int := if tameP x m = (0, 0) then (2, 1) else tameP x m
theorem some_ne (x : Int × Int) (m : Int) : someP x m ≠ (0, 0) := by
  unfold someP; split
  · decide
  · assumption
theorem some_bd (x : Int × Int) {m : Int} (hm : 2 ≤ m) : Bd m (someP x m) := by
  unfold someP; split
  · exact (show Bd 2 ((2 : Int), (1 : Int)) by decide).mono hm
  · exact tame_bd x (by omega)
theorem some30 (x : Int × Int) {m : Int} (h0 : 0 ≤ m) (h1 : m ≤ 1000000000) (h : SHeap) : M.call 30 [agV x, .int .i64 m] h = some (agV (someP x m), h, []) := by
  have c29 := fun h => tame29 x h0 h1 h
  refine call_run sf30 rfl rfl rfl ?_
  unfold sf30
  by_cases c : tameP x m = (0, 0)
  · have e : someP x m = (2, 1) := if_pos c
    have c' : (tameP x m = (0, 0)) = True := eq_true c
    rw [e]
    repeat (first | apply run_seq | apply run_block | apply end_seq | apply end_blk_hit | apply end_blk_miss rfl | apply end_blk | apply end_seq_exit | apply end_seq_ret | apply end_blk_ret | apply run_skip | apply run_ret | apply run_exit | (apply run_region (by decide); (simp (maxSteps := 9999999) only [go_sem, argR, c29, c']; rfl)) | (apply run_regionN (by decide); (simp (maxSteps := 9999999) only [go_sem, argR, c29, c']; rfl)) | (refine run_cond_t ?_ ?_; · simp only [go_sem]) | (refine run_cond_f ?_ ?_; · simp only [go_sem]))
    exact end_nil (q_free [agV (2, 1)] (by simp (maxSteps := 9999999) only [go_sem]) rfl rfl rfl (fun _ => rfl) (take_app _ _) rfl)
  · have e : someP x m = tameP x m := if_neg c
    have c' : (tameP x m = (0, 0)) = False := eq_false c
    rw [e]
    repeat (first | apply run_seq | apply run_block | apply end_seq | apply end_blk_hit | apply end_blk_miss rfl | apply end_blk | apply end_seq_exit | apply end_seq_ret | apply end_blk_ret | apply run_skip | apply run_ret | apply run_exit | (apply run_region (by decide); (simp (maxSteps := 9999999) only [go_sem, argR, c29, c']; rfl)) | (apply run_regionN (by decide); (simp (maxSteps := 9999999) only [go_sem, argR, c29, c']; rfl)) | (refine run_cond_t ?_ ?_; · simp only [go_sem]) | (refine run_cond_f ?_ ?_; · simp only [go_sem]))
    exact end_nil (q_free [agV (tameP x m)] (by simp (maxSteps := 9999999) only [go_sem]) rfl rfl rfl (fun _ => rfl) (take_app _ _) rfl)

/-- Mul -/
theorem mul31 {x y : Int × Int} (hx : Bd 30000 x) (hy : Bd 30000 y) (hz : Bd 30000 (mulP x y)) (h : SHeap) : M.call 31 [agV x, agV y] h = some (.tuple #[agV (mulP x y), .int .i64 0], h, []) := by
  have c64 := open2 x y h [bx x, bx y, bz, bs x y] 3 rfl
  rw [if_pos ⟨hx, hy⟩] at c64
  have c65 := fun h => times65 hx hy (by decide) h
  have c66 := fun h => isIn66 (mulP x y) h
  rw [decide_eq_true hz] at c66
  refine call_run sf31 rfl rfl rfl ?_
  unfold sf31
  repeat (first | apply run_seq | apply run_block | apply end_seq | apply end_blk_hit | apply end_blk_miss rfl | apply end_blk | apply end_seq_exit | apply end_seq_ret | apply end_blk_ret | apply run_skip | apply run_ret | apply run_exit | (apply run_region (by decide); (simp (maxSteps := 9999999) only [go_sem, argR, c64, c65, c66]; rfl)) | (apply run_regionN (by decide); (simp (maxSteps := 9999999) only [go_sem, argR, c64, c65, c66]; rfl)) | (refine run_cond_t ?_ ?_; · simp only [go_sem]) | (refine run_cond_f ?_ ?_; · simp only [go_sem]))
  exact end_nil (q_free [agV (mulP x y), .int .i64 0] (by simp (maxSteps := 9999999) only [go_sem]) rfl rfl rfl (fun _ => rfl) (take_app _ _) rfl)
/-- Quo -/
theorem quo33 {x y : Int × Int} (hx : Bd 30000 x) (hy : Bd 30000 y) (h0 : y ≠ (0, 0)) (h : SHeap) : M.call 33 [agV x, agV y] h = some (.tuple #[agV (quoP x y), agV (restP x y), .int .i64 0], h, []) := by
  have c64 := open2 x y h [bx x, bx y, bz, bz, bs x y] 4 rfl
  rw [if_pos ⟨hx, hy⟩] at c64
  have c60 := fun h => quo60 hx hy (by decide) (by decide) (by decide) h0 h
  have e : (y = (0, 0)) = False := eq_false h0
  refine call_run sf33 rfl rfl rfl ?_
  unfold sf33
  repeat (first | apply run_seq | apply run_block | apply end_seq | apply end_blk_hit | apply end_blk_miss rfl | apply end_blk | apply end_seq_exit | apply end_seq_ret | apply end_blk_ret | apply run_skip | apply run_ret | apply run_exit | (apply run_region (by decide); (simp (maxSteps := 9999999) only [go_sem, argR, c64, e, c60]; rfl)) | (apply run_regionN (by decide); (simp (maxSteps := 9999999) only [go_sem, argR, c64, e, c60]; rfl)) | (refine run_cond_t ?_ ?_; · simp only [go_sem]) | (refine run_cond_f ?_ ?_; · simp only [go_sem]))
  exact end_nil (q_free [agV (quoP x y), agV (restP x y), .int .i64 0] (by simp (maxSteps := 9999999) only [go_sem]) rfl rfl rfl (fun _ => rfl) (take_app _ _) rfl)
end Go.Proofs.YtdmfhdnpakgkpaaDoor.Sh

