/- Numbers of the chapter: what the functions say of pairs that are none. -/
import Derived.Test.YtdmfhdnpakgkpaaDoorNe
set_option linter.all false
namespace Go.Proofs.YtdmfhdnpakgkpaaDoor.Sh
open Go
set_option maxRecDepth 100000

abbrev agV (p : Int × Int) : Value := .agg #[.int .i64 p.1, .int .i64 p.2]
abbrev bx (p : Int × Int) : SO := .cells [.int .i64 p.1, .int .i64 p.2] 34 true 0 []
abbrev bz : SO := .cells [.int .i64 0, .int .i64 0] 34 true 0 []
abbrev bs (x y : Int × Int) : SO := .cells [.int .i64 x.1, .int .i64 x.2, .int .i64 y.1, .int .i64 y.2] 68 true 0 []
theorem open2 (x y : Int × Int) (h : SHeap) (l : List SO) (k : Nat) (hk : l[k]? = some (bs x y)) : M.call 64 [.slice (some ⟨h.length + k, 0, none⟩) 2 2] (h ++ l) = some (.int .i64 (if Bd 30000 x ∧ Bd 30000 y then 0 else 70), h ++ l, []) := by
  have := open64 (h := h ++ l) (v := .slice (some ⟨h.length + k, 0, none⟩) 2 2) (a := [x, y]) (PS.mk0 (el := 68) (by rw [app_get, hk]; rfl) rfl) (by simp)
  rw [this]
  simp [openE]

theorem mul31_no {x y : Int × Int} (hp : ¬ (Bd 30000 x ∧ Bd 30000 y)) (h : SHeap) : M.call 31 [agV x, agV y] h = some (.tuple #[.agg #[.int .i64 0, .int .i64 0], .int .i64 70], h, []) := by
  have c64 := open2 x y h [bx x, bx y, bz, bs x y] 3 rfl
  rw [if_neg hp] at c64
  refine call_run sf31 rfl rfl rfl ?_
  unfold sf31
  repeat (first | apply run_seq | apply run_block | apply end_seq | apply end_blk_hit | apply end_blk_miss rfl | apply end_blk | apply end_seq_exit | apply end_seq_ret | apply end_blk_ret | apply run_skip | apply run_ret | apply run_exit | (apply run_region (by decide); (simp only [go_sem, argR, c64]; rfl)) | (apply run_regionN (by decide); (simp only [go_sem, argR, c64]; rfl)) | (refine run_cond_t ?_ ?_; · simp only [go_sem]) | (refine run_cond_f ?_ ?_; · simp only [go_sem]))
  exact end_nil (q_free [.agg #[.int .i64 0, .int .i64 0], .int .i64 70] (by simp only [go_sem]) rfl rfl rfl (fun _ => rfl) (take_app _ _) rfl)
theorem quo33_no {x y : Int × Int} (hp : ¬ (Bd 30000 x ∧ Bd 30000 y)) (h : SHeap) : M.call 33 [agV x, agV y] h = some (.tuple #[.agg #[.int .i64 0, .int .i64 0], .agg #[.int .i64 0, .int .i64 0], .int .i64 70], h, []) := by
  have c64 := open2 x y h [bx x, bx y, bz, bz, bs x y] 4 rfl
  rw [if_neg hp] at c64
  refine call_run sf33 rfl rfl rfl ?_
  unfold sf33
  repeat (first | apply run_seq | apply run_block | apply end_seq | apply end_blk_hit | apply end_blk_miss rfl | apply end_blk | apply end_seq_exit | apply end_seq_ret | apply end_blk_ret | apply run_skip | apply run_ret | apply run_exit | (apply run_region (by decide); (simp only [go_sem, argR, c64]; rfl)) | (apply run_regionN (by decide); (simp only [go_sem, argR, c64]; rfl)) | (refine run_cond_t ?_ ?_; · simp only [go_sem]) | (refine run_cond_f ?_ ?_; · simp only [go_sem]))
  exact end_nil (q_free [.agg #[.int .i64 0, .int .i64 0], .agg #[.int .i64 0, .int .i64 0], .int .i64 70] (by simp only [go_sem]) rfl rfl rfl (fun _ => rfl) (take_app _ _) rfl)
theorem divides39_no {x y : Int × Int} (hp : ¬ (Bd 30000 x ∧ Bd 30000 y)) (h : SHeap) : M.call 39 [agV x, agV y] h = some (.tuple #[.bool false, .int .i64 70], h, []) := by
  have c64 := open2 x y h [bx x, bx y, bs x y] 2 rfl
  rw [if_neg hp] at c64
  refine call_run sf39 rfl rfl rfl ?_
  unfold sf39
  repeat (first | apply run_seq | apply run_block | apply end_seq | apply end_blk_hit | apply end_blk_miss rfl | apply end_blk | apply end_seq_exit | apply end_seq_ret | apply end_blk_ret | apply run_skip | apply run_ret | apply run_exit | (apply run_region (by decide); (simp only [go_sem, argR, c64]; rfl)) | (apply run_regionN (by decide); (simp only [go_sem, argR, c64]; rfl)) | (refine run_cond_t ?_ ?_; · simp only [go_sem]) | (refine run_cond_f ?_ ?_; · simp only [go_sem]))
  exact end_nil (q_free [.bool false, .int .i64 70] (by simp only [go_sem]) rfl rfl rfl (fun _ => rfl) (take_app _ _) rfl)
theorem gcd38_no {x y : Int × Int} (hp : ¬ (Bd 30000 x ∧ Bd 30000 y)) (h : SHeap) : M.call 38 [agV x, agV y] h = some (.tuple #[.agg #[.int .i64 0, .int .i64 0], .int .i64 70], h, []) := by
  have c64 := open2 x y h [bx x, bx y, bz, bs x y] 3 rfl
  rw [if_neg hp] at c64
  refine call_run sf38 rfl rfl rfl ?_
  unfold sf38
  repeat (first | apply run_seq | apply run_block | apply end_seq | apply end_blk_hit | apply end_blk_miss rfl | apply end_blk | apply end_seq_exit | apply end_seq_ret | apply end_blk_ret | apply run_skip | apply run_ret | apply run_exit | (apply run_region (by decide); (simp only [go_sem, argR, c64]; rfl)) | (apply run_regionN (by decide); (simp only [go_sem, argR, c64]; rfl)) | (refine run_cond_t ?_ ?_; · simp only [go_sem]) | (refine run_cond_f ?_ ?_; · simp only [go_sem]))
  exact end_nil (q_free [.agg #[.int .i64 0, .int .i64 0], .int .i64 70] (by simp only [go_sem]) rfl rfl rfl (fun _ => rfl) (take_app _ _) rfl)
theorem bezout48_no {x y : Int × Int} (hp : ¬ (Bd 30000 x ∧ Bd 30000 y)) (h : SHeap) : M.call 48 [agV x, agV y] h = some (.tuple #[.agg #[.int .i64 0, .int .i64 0], .agg #[.int .i64 0, .int .i64 0], .agg #[.int .i64 0, .int .i64 0], .int .i64 70], h, []) := by
  have c64 := open2 x y h [bx x, bx y, bz, bz, bz, bs x y] 5 rfl
  rw [if_neg hp] at c64
  refine call_run sf48 rfl rfl rfl ?_
  unfold sf48
  repeat (first | apply run_seq | apply run_block | apply end_seq | apply end_blk_hit | apply end_blk_miss rfl | apply end_blk | apply end_seq_exit | apply end_seq_ret | apply end_blk_ret | apply run_skip | apply run_ret | apply run_exit | (apply run_region (by decide); (simp only [go_sem, argR, c64]; rfl)) | (apply run_regionN (by decide); (simp only [go_sem, argR, c64]; rfl)) | (refine run_cond_t ?_ ?_; · simp only [go_sem]) | (refine run_cond_f ?_ ?_; · simp only [go_sem]))
  exact end_nil (q_free [.agg #[.int .i64 0, .int .i64 0], .agg #[.int .i64 0, .int .i64 0], .agg #[.int .i64 0, .int .i64 0], .int .i64 70] (by simp only [go_sem]) rfl rfl rfl (fun _ => rfl) (take_app _ _) rfl)
theorem inverse53_no {x y : Int × Int} (hp : ¬ (Bd 30000 x ∧ Bd 30000 y)) (h : SHeap) : M.call 53 [agV x, agV y] h = some (.tuple #[.agg #[.int .i64 0, .int .i64 0], .int .i64 70], h, []) := by
  have c48 := fun h => bezout48_no hp h
  refine call_run sf53 rfl rfl rfl ?_
  unfold sf53
  repeat (first | apply run_seq | apply run_block | apply end_seq | apply end_blk_hit | apply end_blk_miss rfl | apply end_blk | apply end_seq_exit | apply end_seq_ret | apply end_blk_ret | apply run_skip | apply run_ret | apply run_exit | (apply run_region (by decide); (simp only [go_sem, argR, c48]; rfl)) | (apply run_regionN (by decide); (simp only [go_sem, argR, c48]; rfl)) | (refine run_cond_t ?_ ?_; · simp only [go_sem]) | (refine run_cond_f ?_ ?_; · simp only [go_sem]))
  exact end_nil (q_free [.agg #[.int .i64 0, .int .i64 0], .int .i64 70] (by simp only [go_sem]) rfl rfl rfl (fun _ => rfl) (take_app _ _) rfl)
theorem power40_no {x y : Int × Int} (hp : ¬ (Bd 30000 x ∧ Bd 30000 y)) (n : Int) (h : SHeap) : M.call 40 [agV x, .int .i64 n, agV y] h = some (.tuple #[.agg #[.int .i64 0, .int .i64 0], .int .i64 70], h, []) := by
  have c64 := open2 x y h [bx x, bx y, bz, bs x y] 3 rfl
  rw [if_neg hp] at c64
  refine call_run sf40 rfl rfl rfl ?_
  unfold sf40
  repeat (first | apply run_seq | apply run_block | apply end_seq | apply end_blk_hit | apply end_blk_miss rfl | apply end_blk | apply end_seq_exit | apply end_seq_ret | apply end_blk_ret | apply run_skip | apply run_ret | apply run_exit | (apply run_region (by decide); (simp only [go_sem, argR, c64]; rfl)) | (apply run_regionN (by decide); (simp only [go_sem, argR, c64]; rfl)) | (refine run_cond_t ?_ ?_; · simp only [go_sem]) | (refine run_cond_f ?_ ?_; · simp only [go_sem]))
  exact end_nil (q_free [.agg #[.int .i64 0, .int .i64 0], .int .i64 70] (by simp only [go_sem]) rfl rfl rfl (fun _ => rfl) (take_app _ _) rfl)
theorem first42_no {x : Int × Int} (hp : ¬ Bd 30000 x) (h : SHeap) : M.call 42 [agV x] h = some (.tuple #[.agg #[.int .i64 0, .int .i64 0], .agg #[.int .i64 0, .int .i64 0], .int .i64 70], h, []) := by
  have c57 := fun h => check57 x h
  simp only [hp, if_false] at c57
  refine call_run sf42 rfl rfl rfl ?_
  unfold sf42
  repeat (first | apply run_seq | apply run_block | apply end_seq | apply end_blk_hit | apply end_blk_miss rfl | apply end_blk | apply end_seq_exit | apply end_seq_ret | apply end_blk_ret | apply run_skip | apply run_ret | apply run_exit | (apply run_region (by decide); (simp only [go_sem, argR, c57]; rfl)) | (apply run_regionN (by decide); (simp only [go_sem, argR, c57]; rfl)) | (refine run_cond_t ?_ ?_; · simp only [go_sem]) | (refine run_cond_f ?_ ?_; · simp only [go_sem]))
  exact end_nil (q_free [.agg #[.int .i64 0, .int .i64 0], .agg #[.int .i64 0, .int .i64 0], .int .i64 70] (by simp only [go_sem]) rfl rfl rfl (fun _ => rfl) (take_app _ _) rfl)
theorem factor36_no {x : Int × Int} (hp : ¬ Bd 30000 x) (h : SHeap) : M.call 36 [agV x] h = some (.tuple #[.agg #[.int .i64 0, .int .i64 0], .slice none 0 0, .int .i64 70], h, []) := by
  have c57 := fun h => check57 x h
  simp only [hp, if_false] at c57
  refine call_run sf36 rfl rfl rfl ?_
  unfold sf36
  repeat (first | apply run_seq | apply run_block | apply end_seq | apply end_blk_hit | apply end_blk_miss rfl | apply end_blk | apply end_seq_exit | apply end_seq_ret | apply end_blk_ret | apply run_skip | apply run_ret | apply run_exit | (apply run_region (by decide); (simp only [go_sem, argR, c57]; rfl)) | (apply run_regionN (by decide); (simp only [go_sem, argR, c57]; rfl)) | (refine run_cond_t ?_ ?_; · simp only [go_sem]) | (refine run_cond_f ?_ ?_; · simp only [go_sem]))
  exact end_nil (q_free [.agg #[.int .i64 0, .int .i64 0], .slice none 0 0, .int .i64 70] (by simp only [go_sem]) rfl rfl rfl (fun _ => rfl) (take_app _ _) rfl)
theorem rests25_no {x : Int × Int} (hp : ¬ Bd 30000 x) (h : SHeap) : M.call 25 [agV x] h = some (.tuple #[.slice none 0 0, .int .i64 70], h, []) := by
  have c57 := fun h => check57 x h
  simp only [hp, if_false] at c57
  refine call_run sf25 rfl rfl rfl ?_
  unfold sf25
  repeat (first | apply run_seq | apply run_block | apply end_seq | apply end_blk_hit | apply end_blk_miss rfl | apply end_blk | apply end_seq_exit | apply end_seq_ret | apply end_blk_ret | apply run_skip | apply run_ret | apply run_exit | (apply run_region (by decide); (simp only [go_sem, argR, c57]; rfl)) | (apply run_regionN (by decide); (simp only [go_sem, argR, c57]; rfl)) | (refine run_cond_t ?_ ?_; · simp only [go_sem]) | (refine run_cond_f ?_ ?_; · simp only [go_sem]))
  exact end_nil (q_free [.slice none 0 0, .int .i64 70] (by simp only [go_sem]) rfl rfl rfl (fun _ => rfl) (take_app _ _) rfl)

/-- GaussChecks on the shadow machine -/
theorem law16 (x y : Int × Int) (h : SHeap) : M.call 16 [agV x, agV y] h = some (.bool true, h, []) := by
  have c26x := fun h => validR26 x h
  have c26y := fun h => validR26 y h
  have c57 := fun h => check57 x h
  refine call_run sf16 rfl rfl rfl ?_
  unfold sf16
  show Run M _ 9 _ _ _ _ _ _ _
  by_cases hx : Bd 30000 x
  · simp only [hx, if_true, decide_true] at c57 c26x
    by_cases hy : Bd 30000 y
    · simp only [hy, decide_true] at c26y
      repeat (first | apply run_seq | apply run_block | apply end_seq | apply end_blk_hit | apply end_blk_miss rfl | apply end_blk | apply end_seq_exit | apply end_seq_ret | apply end_blk_ret | apply run_skip | apply run_ret | apply run_exit | (apply run_region (by decide); (simp only [go_sem, argR, c26x, c26y, c57, awake_call]; rfl)) | (apply run_regionN (by decide); (simp only [go_sem, argR, c26x, c26y, c57, awake_call]; rfl)) | (refine run_cond_t ?_ ?_; · simp only [go_sem]) | (refine run_cond_f ?_ ?_; · simp only [go_sem]))
      exact end_nil (q_ret1 _ (by simp only [go_sem]) rfl (take_app _ _))
    · simp only [hy, decide_false] at c26y
      have hp : ¬ (Bd 30000 x ∧ Bd 30000 y) := fun e => hy e.2
      have c31 := fun h => mul31_no hp h
      have c33 := fun h => quo33_no hp h
      have c39 := fun h => divides39_no hp h
      have c38 := fun h => gcd38_no hp h
      have c48 := fun h => bezout48_no hp h
      have c53 := fun h => inverse53_no hp h
      have c40 := fun h => power40_no hp (-1) h
      repeat (first | apply run_seq | apply run_block | apply end_seq | apply end_blk_hit | apply end_blk_miss rfl | apply end_blk | apply end_seq_exit | apply end_seq_ret | apply end_blk_ret | apply run_skip | apply run_ret | apply run_exit | (apply run_region (by decide); (simp only [go_sem, argR, c26x, c26y, c57, c31, c33, c39, c38, c48, c53, c40, awake_call]; rfl)) | (apply run_regionN (by decide); (simp only [go_sem, argR, c26x, c26y, c57, c31, c33, c39, c38, c48, c53, c40, awake_call]; rfl)) | (refine run_cond_t ?_ ?_; · simp only [go_sem]) | (refine run_cond_f ?_ ?_; · simp only [go_sem]))
      exact end_nil (q_ret1 _ (by simp only [go_sem]) rfl (take_app _ _))
  · simp only [hx, if_false, decide_false] at c57 c26x
    have hp : ¬ (Bd 30000 x ∧ Bd 30000 y) := fun e => hx e.1
    have c31 := fun h => mul31_no hp h
    have c33 := fun h => quo33_no hp h
    have c39 := fun h => divides39_no hp h
    have c38 := fun h => gcd38_no hp h
    have c48 := fun h => bezout48_no hp h
    have c53 := fun h => inverse53_no hp h
    have c40 := fun h => power40_no hp (-1) h
    have c32 := fun h => norm32_no hx h
    have c42 := fun h => first42_no hx h
    have c45 := fun h => prime45_no hx h
    have c36 := fun h => factor36_no hx h
    have c25 := fun h => rests25_no hx h
    by_cases hy : Bd 30000 y
    · simp only [hy, decide_true] at c26y
      repeat (first | apply run_seq | apply run_block | apply end_seq | apply end_blk_hit | apply end_blk_miss rfl | apply end_blk | apply end_seq_exit | apply end_seq_ret | apply end_blk_ret | apply run_skip | apply run_ret | apply run_exit | (apply run_region (by decide); (simp only [go_sem, argR, c26x, c26y, c57, c31, c33, c39, c38, c48, c53, c40, c32, c42, c45, c36, c25, awake_call]; rfl)) | (apply run_regionN (by decide); (simp only [go_sem, argR, c26x, c26y, c57, c31, c33, c39, c38, c48, c53, c40, c32, c42, c45, c36, c25, awake_call]; rfl)) | (refine run_cond_t ?_ ?_; · simp only [go_sem]) | (refine run_cond_f ?_ ?_; · simp only [go_sem]))
      exact end_nil (q_ret1 _ (by simp only [go_sem]) rfl (take_app _ _))
    · simp only [hy, decide_false] at c26y
      repeat (first | apply run_seq | apply run_block | apply end_seq | apply end_blk_hit | apply end_blk_miss rfl | apply end_blk | apply end_seq_exit | apply end_seq_ret | apply end_blk_ret | apply run_skip | apply run_ret | apply run_exit | (apply run_region (by decide); (simp only [go_sem, argR, c26x, c26y, c57, c31, c33, c39, c38, c48, c53, c40, c32, c42, c45, c36, c25, awake_call]; rfl)) | (apply run_regionN (by decide); (simp only [go_sem, argR, c26x, c26y, c57, c31, c33, c39, c38, c48, c53, c40, c32, c42, c45, c36, c25, awake_call]; rfl)) | (refine run_cond_t ?_ ?_; · simp only [go_sem]) | (refine run_cond_f ?_ ?_; · simp only [go_sem]))
      exact end_nil (q_ret1 _ (by simp only [go_sem]) rfl (take_app _ _))
end Go.Proofs.YtdmfhdnpakgkpaaDoor.Sh

