/- Rests and tips of the document; comparing numbers; the law of the rests. -/
import Derived.Test.YtecncmmkghmojaaXo
set_option linter.all false
namespace Go.Proofs.Ytecncmmkghmojaa.Sh
open Go Geo
set_option maxRecDepth 100000

/-- along -/
theorem along79 {X Y D : Int} (F : Fine X Y D) {p q : Int × Int} (hp : inR p) (hq : inR q) (h : SHeap) :
    M.call 79 [.agg #[.int .i64 X, .int .i64 Y, .int .i64 D], .agg #[.int .i64 p.1, .int .i64 p.2], .agg #[.int .i64 q.1, .int .i64 q.2]] h = some (.int .i64 (ahd X Y D p q), h, []) := by
  have hx := F.x
  have hy := F.y
  have hm := inR_mul F.d hp
  rw [Int.mul_comm D p.1, Int.mul_comm D p.2] at hm
  obtain ⟨a1, a2, a3, a4⟩ := hp
  obtain ⟨b1, b2, b3, b4⟩ := hq
  have w1 : IntKind.i64.wrap (q.1 - p.1) = q.1 - p.1 := wrap_abs (by omega)
  have w2 : IntKind.i64.wrap (q.2 - p.2) = q.2 - p.2 := wrap_abs (by omega)
  have w3 : IntKind.i64.wrap (p.1 * D) = p.1 * D := wrap_abs (by omega)
  have w4 : IntKind.i64.wrap (p.2 * D) = p.2 * D := wrap_abs (by omega)
  have w5 : IntKind.i64.wrap (X - p.1 * D) = X - p.1 * D := wrap_abs (by omega)
  have w6 : IntKind.i64.wrap (Y - p.2 * D) = Y - p.2 * D := wrap_abs (by omega)
  have m1 : ((q.1 - p.1) * (X - p.1 * D)).natAbs ≤ 40 * 1000000 := mul_bound (by omega) (by omega)
  have m2 : ((q.2 - p.2) * (Y - p.2 * D)).natAbs ≤ 40 * 1000000 := mul_bound (by omega) (by omega)
  have w7 : IntKind.i64.wrap ((q.1 - p.1) * (X - p.1 * D)) = (q.1 - p.1) * (X - p.1 * D) := wrap_abs (by omega)
  have w8 : IntKind.i64.wrap ((q.2 - p.2) * (Y - p.2 * D)) = (q.2 - p.2) * (Y - p.2 * D) := wrap_abs (by omega)
  have w9 : IntKind.i64.wrap ((q.1 - p.1) * (X - p.1 * D) + (q.2 - p.2) * (Y - p.2 * D)) = (q.1 - p.1) * (X - p.1 * D) + (q.2 - p.2) * (Y - p.2 * D) := wrap_abs (by omega)
  rw [ahd_eq]
  refine call_run sf79 rfl rfl rfl ?_
  unfold sf79
  repeat (first | apply run_seq | apply run_block | apply end_seq | apply end_blk_hit | apply end_blk_miss rfl | apply end_blk | apply end_seq_exit | apply end_seq_ret | apply end_blk_ret | apply run_skip | apply run_ret | apply run_exit | (apply run_region (by decide); (simp only [go_sem, ↓reduceIte, Int.reduceAdd, Int.reduceEq, Int.reduceLE, Int.reduceLT, Int.reduceMul, Int.reduceNeg, Int.reduceSub, Int.reduceToNat, Nat.reduceAdd, Nat.reduceBEq, Nat.reduceEqDiff, Nat.reduceLT, Nat.reduceLeDiff, Nat.reduceMul, Nat.reduceSub, argR, w1, w2, w3, w4, w5, w6, w7, w8, w9]; rfl)) | (refine run_cond_t ?_ ?_; · simp only [go_sem, ↓reduceIte, Nat.reduceEqDiff]) | (refine run_cond_f ?_ ?_; · simp only [go_sem, ↓reduceIte, Nat.reduceEqDiff]))
  exact end_nil (q_ret1 _ (by simp only [go_sem, ↓reduceIte, Int.reduceAdd, Int.reduceEq, Int.reduceLE, Int.reduceLT, Int.reduceMul, Int.reduceNeg, Int.reduceSub, Int.reduceToNat, Nat.reduceAdd, Nat.reduceBEq, Nat.reduceEqDiff, Nat.reduceLT, Nat.reduceLeDiff, Nat.reduceMul, Nat.reduceSub, w9]) rfl (take_app _ _))

/-- ends of the document -/
theorem endsR83 {h : SHeap} {v : Value} {l : List (Int × Int)} (hv : PS h v l) (hn : l.length ≤ 12) {i : Nat} (hi : i < l.length) :
    M.call 83 [v, .int .i64 i] h = some (.tuple #[.agg #[.int .i64 (cn l i).1, .int .i64 (cn l i).2], .agg #[.int .i64 (cn l ((i + 1) % l.length)).1, .int .i64 (cn l ((i + 1) % l.length)).2]], h, []) := by
  obtain ⟨a, c, rfl, hps⟩ := hv
  obtain ⟨b, o, rfl, hp⟩ := hps (by intro e; rw [e] at hi; simp at hi)
  have hqm : (i + 1) % l.length < l.length := Nat.mod_lt _ (by omega)
  have e1 : (i : Int) < l.length := by omega
  have e2 : (0 : Int) ≤ i := by omega
  have ew : IntKind.i64.wrap ((i : Int) + 1) = ((i + 1 : Nat) : Int) := by rw [wrap64 (by omega) (by omega)]; rfl
  have v4 : (((i + 1 : Nat) : Int)).tmod (l.length : Int) = (((i + 1) % l.length : Nat) : Int) := by rw [Int.tmod_eq_emod_of_nonneg (by omega)]; rfl
  have hz : ¬ ((l.length : Int) = 0) := by omega
  have p3 : (((i + 1) % l.length : Nat) : Int) < l.length := by omega
  have p4 : (0 : Int) ≤ (((i + 1) % l.length : Nat) : Int) := by omega
  have l1 := fun e => hp.corner hi e
  have l2 := fun e => hp.corner hqm e
  generalize (i + 1) % l.length = a at *
  generalize cn l i = p at *
  generalize cn l a = q at *
  refine call_run sf83 rfl rfl rfl ?_
  unfold sf83
  repeat (first | apply run_seq | apply run_block | apply end_seq | apply end_blk_hit | apply end_blk_miss rfl | apply end_blk | apply end_seq_exit | apply end_seq_ret | apply end_blk_ret | apply run_skip | apply run_ret | apply run_exit | (apply run_region (by decide); (simp only [go_sem, ↓reduceIte, Int.reduceAdd, Int.reduceEq, Int.reduceLE, Int.reduceLT, Int.reduceMul, Int.reduceNeg, Int.reduceSub, Int.reduceToNat, Nat.reduceAdd, Nat.reduceBEq, Nat.reduceEqDiff, Nat.reduceLT, Nat.reduceLeDiff, Nat.reduceMul, Nat.reduceSub, argR, l1, l2, e1, e2, ew, v4, hz, p3, p4, Int.toNat_natCast]; rfl)) | (refine run_cond_t ?_ ?_; · simp only [go_sem, ↓reduceIte, Nat.reduceEqDiff]) | (refine run_cond_f ?_ ?_; · simp only [go_sem, ↓reduceIte, Nat.reduceEqDiff]))
  refine end_nil (q_cell2 [.int .i64 p.1, .int .i64 p.2] [.int .i64 q.1, .int .i64 q.2] ?_ ?_ rfl rfl ⟨some ⟨h.length, 0, none⟩, by simp only [go_sem, ↓reduceIte, Int.reduceAdd, Int.reduceEq, Int.reduceLE, Int.reduceLT, Int.reduceMul, Int.reduceNeg, Int.reduceSub, Int.reduceToNat, Nat.reduceAdd, Nat.reduceBEq, Nat.reduceEqDiff, Nat.reduceLT, Nat.reduceLeDiff, Nat.reduceMul, Nat.reduceSub]⟩ ⟨some ⟨h.length + 1, 0, none⟩, by simp only [go_sem, ↓reduceIte, Int.reduceAdd, Int.reduceEq, Int.reduceLE, Int.reduceLT, Int.reduceMul, Int.reduceNeg, Int.reduceSub, Int.reduceToNat, Nat.reduceAdd, Nat.reduceBEq, Nat.reduceEqDiff, Nat.reduceLT, Nat.reduceLeDiff, Nat.reduceMul, Nat.reduceSub]⟩ (take_app _ _))
  · simp only [go_sem, ↓reduceIte, Int.reduceAdd, Int.reduceEq, Int.reduceLE, Int.reduceLT, Int.reduceMul, Int.reduceNeg, Int.reduceSub, Int.reduceToNat, Nat.reduceAdd, Nat.reduceBEq, Nat.reduceEqDiff, Nat.reduceLT, Nat.reduceLeDiff, Nat.reduceMul, Nat.reduceSub]
  · simp only [go_sem, ↓reduceIte, Int.reduceAdd, Int.reduceEq, Int.reduceLE, Int.reduceLT, Int.reduceMul, Int.reduceNeg, Int.reduceSub, Int.reduceToNat, Nat.reduceAdd, Nat.reduceBEq, Nat.reduceEqDiff, Nat.reduceLT, Nat.reduceLeDiff, Nat.reduceMul, Nat.reduceSub]

/-- Rest of the document -/
theorem rest78 {h : SHeap} {v : Value} {l : List (Int × Int)} (hv : PS h v l) (T : Tame l) {i : Nat} (hi : i < l.length) (firm : Bool) :
    M.call 78 [v, .int .i64 i, .bool firm] h = some (.bool (if firm then firmB (mX l) (mY l) (mD l) (cn l i) (cn l ((i + 1) % l.length)) else restB (mX l) (mY l) (mD l) (cn l i) (cn l ((i + 1) % l.length))), h, []) := by
  have c22 := middleR22 hv T
  have c83 := endsR83 (hv.app [SO.cells [.int .i64 (mX l), .int .i64 (mY l), .int .i64 (mD l)] 27 true 0 []]) T.hi hi
  have hp : inR (cn l i) := inR_getD T.inr i
  have hq : inR (cn l ((i + 1) % l.length)) := inR_getD T.inr ((i + 1) % l.length)
  have F := T.fine
  generalize mX l = X at *
  generalize mY l = Y at *
  generalize mD l = D at *
  generalize (i + 1) % l.length = a at *
  generalize cn l i = p at *
  generalize cn l a = q at *
  have a1 := fun e => along79 F hp hq e
  have a2 := fun e => along79 F hq hp e
  unfold firmB restB
  generalize ahd X Y D p q = A at *
  generalize ahd X Y D q p = B at *
  refine call_run sf78 rfl rfl rfl ?_
  unfold sf78
  cases firm
  · rw [if_neg (by decide)]
    by_cases c1 : 0 ≤ A
    · by_cases c2 : 0 ≤ B
      · repeat (first | apply run_seq | apply run_block | apply end_seq | apply end_blk_hit | apply end_blk_miss rfl | apply end_blk | apply end_seq_exit | apply end_seq_ret | apply end_blk_ret | apply run_skip | apply run_ret | apply run_exit | (apply run_region (by decide); (simp only [go_sem, ↓reduceIte, Int.reduceAdd, Int.reduceEq, Int.reduceLE, Int.reduceLT, Int.reduceMul, Int.reduceNeg, Int.reduceSub, Int.reduceToNat, Nat.reduceAdd, Nat.reduceBEq, Nat.reduceEqDiff, Nat.reduceLT, Nat.reduceLeDiff, Nat.reduceMul, Nat.reduceSub, argR, c22, c83, a1, a2, c1, c2]; rfl)) | (refine run_cond_t ?_ ?_; · simp only [go_sem, ↓reduceIte, Nat.reduceEqDiff]) | (refine run_cond_f ?_ ?_; · simp only [go_sem, ↓reduceIte, Nat.reduceEqDiff]))
        exact end_nil (q_ret1 _ (by simp only [go_sem, ↓reduceIte, Int.reduceAdd, Int.reduceEq, Int.reduceLE, Int.reduceLT, Int.reduceMul, Int.reduceNeg, Int.reduceSub, Int.reduceToNat, Nat.reduceAdd, Nat.reduceBEq, Nat.reduceEqDiff, Nat.reduceLT, Nat.reduceLeDiff, Nat.reduceMul, Nat.reduceSub, c1, c2]) rfl (take_app _ _))
      · repeat (first | apply run_seq | apply run_block | apply end_seq | apply end_blk_hit | apply end_blk_miss rfl | apply end_blk | apply end_seq_exit | apply end_seq_ret | apply end_blk_ret | apply run_skip | apply run_ret | apply run_exit | (apply run_region (by decide); (simp only [go_sem, ↓reduceIte, Int.reduceAdd, Int.reduceEq, Int.reduceLE, Int.reduceLT, Int.reduceMul, Int.reduceNeg, Int.reduceSub, Int.reduceToNat, Nat.reduceAdd, Nat.reduceBEq, Nat.reduceEqDiff, Nat.reduceLT, Nat.reduceLeDiff, Nat.reduceMul, Nat.reduceSub, argR, c22, c83, a1, a2, c1, c2]; rfl)) | (refine run_cond_t ?_ ?_; · simp only [go_sem, ↓reduceIte, Nat.reduceEqDiff]) | (refine run_cond_f ?_ ?_; · simp only [go_sem, ↓reduceIte, Nat.reduceEqDiff]))
        exact end_nil (q_ret1 _ (by simp only [go_sem, ↓reduceIte, Int.reduceAdd, Int.reduceEq, Int.reduceLE, Int.reduceLT, Int.reduceMul, Int.reduceNeg, Int.reduceSub, Int.reduceToNat, Nat.reduceAdd, Nat.reduceBEq, Nat.reduceEqDiff, Nat.reduceLT, Nat.reduceLeDiff, Nat.reduceMul, Nat.reduceSub, c1, c2]) rfl (take_app _ _))
    · repeat (first | apply run_seq | apply run_block | apply end_seq | apply end_blk_hit | apply end_blk_miss rfl | apply end_blk | apply end_seq_exit | apply end_seq_ret | apply end_blk_ret | apply run_skip | apply run_ret | apply run_exit | (apply run_region (by decide); (simp only [go_sem, ↓reduceIte, Int.reduceAdd, Int.reduceEq, Int.reduceLE, Int.reduceLT, Int.reduceMul, Int.reduceNeg, Int.reduceSub, Int.reduceToNat, Nat.reduceAdd, Nat.reduceBEq, Nat.reduceEqDiff, Nat.reduceLT, Nat.reduceLeDiff, Nat.reduceMul, Nat.reduceSub, argR, c22, c83, a1, a2, c1]; rfl)) | (refine run_cond_t ?_ ?_; · simp only [go_sem, ↓reduceIte, Nat.reduceEqDiff]) | (refine run_cond_f ?_ ?_; · simp only [go_sem, ↓reduceIte, Nat.reduceEqDiff]))
      exact end_nil (q_ret1 _ (by simp only [go_sem, ↓reduceIte, Int.reduceAdd, Int.reduceEq, Int.reduceLE, Int.reduceLT, Int.reduceMul, Int.reduceNeg, Int.reduceSub, Int.reduceToNat, Nat.reduceAdd, Nat.reduceBEq, Nat.reduceEqDiff, Nat.reduceLT, Nat.reduceLeDiff, Nat.reduceMul, Nat.reduceSub, c1, Bool.false_and]) rfl (take_app _ _))
  · rw [if_pos rfl]
    by_cases c1 : 0 < A
    · by_cases c2 : 0 < B
      · repeat (first | apply run_seq | apply run_block | apply end_seq | apply end_blk_hit | apply end_blk_miss rfl | apply end_blk | apply end_seq_exit | apply end_seq_ret | apply end_blk_ret | apply run_skip | apply run_ret | apply run_exit | (apply run_region (by decide); (simp only [go_sem, ↓reduceIte, Int.reduceAdd, Int.reduceEq, Int.reduceLE, Int.reduceLT, Int.reduceMul, Int.reduceNeg, Int.reduceSub, Int.reduceToNat, Nat.reduceAdd, Nat.reduceBEq, Nat.reduceEqDiff, Nat.reduceLT, Nat.reduceLeDiff, Nat.reduceMul, Nat.reduceSub, argR, c22, c83, a1, a2, c1, c2]; rfl)) | (refine run_cond_t ?_ ?_; · simp only [go_sem, ↓reduceIte, Nat.reduceEqDiff]) | (refine run_cond_f ?_ ?_; · simp only [go_sem, ↓reduceIte, Nat.reduceEqDiff]))
        exact end_nil (q_ret1 _ (by simp only [go_sem, ↓reduceIte, Int.reduceAdd, Int.reduceEq, Int.reduceLE, Int.reduceLT, Int.reduceMul, Int.reduceNeg, Int.reduceSub, Int.reduceToNat, Nat.reduceAdd, Nat.reduceBEq, Nat.reduceEqDiff, Nat.reduceLT, Nat.reduceLeDiff, Nat.reduceMul, Nat.reduceSub, c1, c2]) rfl (take_app _ _))
      · repeat (first | apply run_seq | apply run_block | apply end_seq | apply end_blk_hit | apply end_blk_miss rfl | apply end_blk | apply end_seq_exit | apply end_seq_ret | apply end_blk_ret | apply run_skip | apply run_ret | apply run_exit | (apply run_region (by decide); (simp only [go_sem, ↓reduceIte, Int.reduceAdd, Int.reduceEq, Int.reduceLE, Int.reduceLT, Int.reduceMul, Int.reduceNeg, Int.reduceSub, Int.reduceToNat, Nat.reduceAdd, Nat.reduceBEq, Nat.reduceEqDiff, Nat.reduceLT, Nat.reduceLeDiff, Nat.reduceMul, Nat.reduceSub, argR, c22, c83, a1, a2, c1, c2]; rfl)) | (refine run_cond_t ?_ ?_; · simp only [go_sem, ↓reduceIte, Nat.reduceEqDiff]) | (refine run_cond_f ?_ ?_; · simp only [go_sem, ↓reduceIte, Nat.reduceEqDiff]))
        exact end_nil (q_ret1 _ (by simp only [go_sem, ↓reduceIte, Int.reduceAdd, Int.reduceEq, Int.reduceLE, Int.reduceLT, Int.reduceMul, Int.reduceNeg, Int.reduceSub, Int.reduceToNat, Nat.reduceAdd, Nat.reduceBEq, Nat.reduceEqDiff, Nat.reduceLT, Nat.reduceLeDiff, Nat.reduceMul, Nat.reduceSub, c1, c2]) rfl (take_app _ _))
    · repeat (first | apply run_seq | apply run_block | apply end_seq | apply end_blk_hit | apply end_blk_miss rfl | apply end_blk | apply end_seq_exit | apply end_seq_ret | apply end_blk_ret | apply run_skip | apply run_ret | apply run_exit | (apply run_region (by decide); (simp only [go_sem, ↓reduceIte, Int.reduceAdd, Int.reduceEq, Int.reduceLE, Int.reduceLT, Int.reduceMul, Int.reduceNeg, Int.reduceSub, Int.reduceToNat, Nat.reduceAdd, Nat.reduceBEq, Nat.reduceEqDiff, Nat.reduceLT, Nat.reduceLeDiff, Nat.reduceMul, Nat.reduceSub, argR, c22, c83, a1, a2, c1]; rfl)) | (refine run_cond_t ?_ ?_; · simp only [go_sem, ↓reduceIte, Nat.reduceEqDiff]) | (refine run_cond_f ?_ ?_; · simp only [go_sem, ↓reduceIte, Nat.reduceEqDiff]))
      exact end_nil (q_ret1 _ (by simp only [go_sem, ↓reduceIte, Int.reduceAdd, Int.reduceEq, Int.reduceLE, Int.reduceLT, Int.reduceMul, Int.reduceNeg, Int.reduceSub, Int.reduceToNat, Nat.reduceAdd, Nat.reduceBEq, Nat.reduceEqDiff, Nat.reduceLT, Nat.reduceLeDiff, Nat.reduceMul, Nat.reduceSub, c1, Bool.false_and]) rfl (take_app _ _))

theorem AccS.ps {H0 h : SHeap} {v : Value} {cs : List Value} {n s : Nat} {el : TypeId} (A : AccS H0 h v cs n s el) {w : Value} {l : List (Int × Int)} (hw : PS H0 w l) : PS h w l := by
  obtain ⟨a, c, rfl, k⟩ := hw
  exact ⟨a, c, rfl, fun hn => let ⟨b, o, e, p⟩ := k hn; ⟨b, o, e, A.prs p⟩⟩

end Go.Proofs.Ytecncmmkghmojaa.Sh

