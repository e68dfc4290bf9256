/- Points of the document: turns, order, distances. -/
import Derived.Test.YtecncmmkghmojaaWu
import Derived.Test.YtecncmmkghmojaaH3
set_option linter.all false
namespace Go.Proofs.Ytecncmmkghmojaa.Sh
open Go Geo
set_option maxRecDepth 100000

/-- a call of which the result shows at its end alone -/
theorem call_ex {FT : FuncId → Option SFunc} {C : FuncId → List Value → Option Value} {f : FuncId} {args : List Value} {h : SHeap} (P : Value × SHeap × List Nat → Prop) (sf : SFunc) (hf : FT f = some sf) (hC : C f args = none) (hl : Nat.blt args.length (2 ^ sf.dep) = true)
    (hw : Run (big FT C) ⟨h.length, none, f⟩ sf.dep sf.body [] (argR args) [] h [] (fun ex ρ ms h' d => ∃ r, P r ∧ callQ sf.res h.length r ex ρ ms h' d)) : ∃ r, P r ∧ (big FT C).call f args h = some r := by
  obtain ⟨k1, k2⟩ := args_get (dep := sf.dep) args (by simpa using hl)
  have hw' : RunW (big FT C) ⟨h.length, none, f⟩ sf.dep sf.body (argR args) [] h [] (fun ex ρ ms h' d => ∃ r, P r ∧ callQ sf.res h.length r ex ρ ms h' d) := by
    have := hw
    unfold Run at this
    unfold Ends at this
    exact this
  obtain ⟨ex, t', ms', h', d', e, f1, r, hr, k, k3⟩ := hw' _ k1 k2
  refine ⟨r, hr, big_call hC ?_⟩
  unfold stepCall
  rw [hf]
  simp only [hl, if_true, fNat_eq, fFill_eq]
  rw [e]
  cases ex with
  | normal => exact finW_ok rfl k3
  | ret => exact finW_ok rfl k3
  | exit id => cases k

def inR (p : Int × Int) : Prop := -20 ≤ p.1 ∧ p.1 ≤ 20 ∧ -20 ≤ p.2 ∧ p.2 ≤ 20

/-- Turn -/
theorem turn60 (a b c : Int × Int) (h : SHeap) (ha : inR a) (hb : inR b) (hc : inR c) : M.call 60 [.agg #[.int .i64 a.1, .int .i64 a.2], .agg #[.int .i64 b.1, .int .i64 b.2], .agg #[.int .i64 c.1, .int .i64 c.2]] h = some (.int .i64 (turn a b c), h, []) := by
  obtain ⟨a1, a2, a3, a4⟩ := ha
  obtain ⟨b1, b2, b3, b4⟩ := hb
  obtain ⟨c1, c2, c3, c4⟩ := hc
  have w1 : IntKind.i64.wrap (b.1 - a.1) = b.1 - a.1 := wrap64 (by omega) (by omega)
  have w2 : IntKind.i64.wrap (c.2 - b.2) = c.2 - b.2 := wrap64 (by omega) (by omega)
  have w3 : IntKind.i64.wrap (b.2 - a.2) = b.2 - a.2 := wrap64 (by omega) (by omega)
  have w4 : IntKind.i64.wrap (c.1 - b.1) = c.1 - b.1 := wrap64 (by omega) (by omega)
  have p1 : ((b.1 - a.1) * (c.2 - b.2)).natAbs ≤ 1600 := Nat.le_trans (mul_bound (m := 40) (n := 40) (by omega) (by omega)) (by decide)
  have p2 : ((b.2 - a.2) * (c.1 - b.1)).natAbs ≤ 1600 := Nat.le_trans (mul_bound (m := 40) (n := 40) (by omega) (by omega)) (by decide)
  have w5 : IntKind.i64.wrap ((b.1 - a.1) * (c.2 - b.2)) = (b.1 - a.1) * (c.2 - b.2) := wrap_abs (by omega)
  have w6 : IntKind.i64.wrap ((b.2 - a.2) * (c.1 - b.1)) = (b.2 - a.2) * (c.1 - b.1) := wrap_abs (by omega)
  have w7 : IntKind.i64.wrap ((b.1 - a.1) * (c.2 - b.2) - (b.2 - a.2) * (c.1 - b.1)) = turn a b c := wrap_abs (by omega)
  refine call_run sf60 rfl rfl rfl ?_
  unfold sf60
  repeat (first | apply run_seq | apply run_block | apply end_seq | apply end_blk_hit | apply end_blk_miss rfl | apply end_blk | apply end_seq_exit | apply end_seq_ret | apply end_blk_ret | apply run_skip | apply run_ret | apply run_exit | (apply run_region (by decide); (simp only [go_sem, ↓reduceIte, Int.reduceAdd, Int.reduceEq, Int.reduceLE, Int.reduceLT, Int.reduceMul, Int.reduceNeg, Int.reduceSub, Int.reduceToNat, Nat.reduceAdd, Nat.reduceBEq, Nat.reduceEqDiff, Nat.reduceLT, Nat.reduceLeDiff, Nat.reduceMul, Nat.reduceSub, argR, w1, w2, w3, w4, w5, w6, w7]; rfl)) | (refine run_cond_t ?_ ?_; · simp only [go_sem, ↓reduceIte, Nat.reduceEqDiff]) | (refine run_cond_f ?_ ?_; · simp only [go_sem, ↓reduceIte, Nat.reduceEqDiff]))
  exact end_nil (q_ret1 _ (by simp only [go_sem, ↓reduceIte, Int.reduceAdd, Int.reduceEq, Int.reduceLE, Int.reduceLT, Int.reduceMul, Int.reduceNeg, Int.reduceSub, Int.reduceToNat, Nat.reduceAdd, Nat.reduceBEq, Nat.reduceEqDiff, Nat.reduceLT, Nat.reduceLeDiff, Nat.reduceMul, Nat.reduceSub]) rfl (take_app _ _))

/-- Before -/
theorem before61 (a b : Int × Int) (h : SHeap) : M.call 61 [.agg #[.int .i64 a.1, .int .i64 a.2], .agg #[.int .i64 b.1, .int .i64 b.2]] h = some (.bool (before a b), h, []) := by
  refine call_run sf61 rfl rfl rfl ?_
  unfold sf61
  by_cases c1 : a.1 < b.1
  · have e : before a b = true := decide_eq_true (.inl c1)
    repeat (first | apply run_seq | apply run_block | apply end_seq | apply end_blk_hit | apply end_blk_miss rfl | apply end_blk | apply end_seq_exit | apply end_seq_ret | apply end_blk_ret | apply run_skip | apply run_ret | apply run_exit | (apply run_region (by decide); (simp only [go_sem, ↓reduceIte, Int.reduceAdd, Int.reduceEq, Int.reduceLE, Int.reduceLT, Int.reduceMul, Int.reduceNeg, Int.reduceSub, Int.reduceToNat, Nat.reduceAdd, Nat.reduceBEq, Nat.reduceEqDiff, Nat.reduceLT, Nat.reduceLeDiff, Nat.reduceMul, Nat.reduceSub, argR, c1]; rfl)) | (refine run_cond_t ?_ ?_; · simp only [go_sem, ↓reduceIte, Nat.reduceEqDiff]) | (refine run_cond_f ?_ ?_; · simp only [go_sem, ↓reduceIte, Nat.reduceEqDiff]))
    exact end_nil (q_ret1 _ (by simp only [go_sem, ↓reduceIte, Int.reduceAdd, Int.reduceEq, Int.reduceLE, Int.reduceLT, Int.reduceMul, Int.reduceNeg, Int.reduceSub, Int.reduceToNat, Nat.reduceAdd, Nat.reduceBEq, Nat.reduceEqDiff, Nat.reduceLT, Nat.reduceLeDiff, Nat.reduceMul, Nat.reduceSub, e]) rfl (take_app _ _))
  · by_cases c2 : a.1 = b.1
    · by_cases c3 : a.2 < b.2
      · have e : before a b = true := decide_eq_true (.inr ⟨c2, c3⟩)
        repeat (first | apply run_seq | apply run_block | apply end_seq | apply end_blk_hit | apply end_blk_miss rfl | apply end_blk | apply end_seq_exit | apply end_seq_ret | apply end_blk_ret | apply run_skip | apply run_ret | apply run_exit | (apply run_region (by decide); (simp only [go_sem, ↓reduceIte, Int.reduceAdd, Int.reduceEq, Int.reduceLE, Int.reduceLT, Int.reduceMul, Int.reduceNeg, Int.reduceSub, Int.reduceToNat, Nat.reduceAdd, Nat.reduceBEq, Nat.reduceEqDiff, Nat.reduceLT, Nat.reduceLeDiff, Nat.reduceMul, Nat.reduceSub, argR, c1, c2, c3, Int.lt_irrefl]; rfl)) | (refine run_cond_t ?_ ?_; · simp only [go_sem, ↓reduceIte, Nat.reduceEqDiff]) | (refine run_cond_f ?_ ?_; · simp only [go_sem, ↓reduceIte, Nat.reduceEqDiff]))
        exact end_nil (q_ret1 _ (by simp only [go_sem, ↓reduceIte, Int.reduceAdd, Int.reduceEq, Int.reduceLE, Int.reduceLT, Int.reduceMul, Int.reduceNeg, Int.reduceSub, Int.reduceToNat, Nat.reduceAdd, Nat.reduceBEq, Nat.reduceEqDiff, Nat.reduceLT, Nat.reduceLeDiff, Nat.reduceMul, Nat.reduceSub, e]) rfl (take_app _ _))
      · have e : before a b = false := decide_eq_false (by omega)
        repeat (first | apply run_seq | apply run_block | apply end_seq | apply end_blk_hit | apply end_blk_miss rfl | apply end_blk | apply end_seq_exit | apply end_seq_ret | apply end_blk_ret | apply run_skip | apply run_ret | apply run_exit | (apply run_region (by decide); (simp only [go_sem, ↓reduceIte, Int.reduceAdd, Int.reduceEq, Int.reduceLE, Int.reduceLT, Int.reduceMul, Int.reduceNeg, Int.reduceSub, Int.reduceToNat, Nat.reduceAdd, Nat.reduceBEq, Nat.reduceEqDiff, Nat.reduceLT, Nat.reduceLeDiff, Nat.reduceMul, Nat.reduceSub, argR, c1, c2, c3, Int.lt_irrefl]; rfl)) | (refine run_cond_t ?_ ?_; · simp only [go_sem, ↓reduceIte, Nat.reduceEqDiff]) | (refine run_cond_f ?_ ?_; · simp only [go_sem, ↓reduceIte, Nat.reduceEqDiff]))
        exact end_nil (q_ret1 _ (by simp only [go_sem, ↓reduceIte, Int.reduceAdd, Int.reduceEq, Int.reduceLE, Int.reduceLT, Int.reduceMul, Int.reduceNeg, Int.reduceSub, Int.reduceToNat, Nat.reduceAdd, Nat.reduceBEq, Nat.reduceEqDiff, Nat.reduceLT, Nat.reduceLeDiff, Nat.reduceMul, Nat.reduceSub, e]) rfl (take_app _ _))
    · have e : before a b = false := decide_eq_false (by omega)
      repeat (first | apply run_seq | apply run_block | apply end_seq | apply end_blk_hit | apply end_blk_miss rfl | apply end_blk | apply end_seq_exit | apply end_seq_ret | apply end_blk_ret | apply run_skip | apply run_ret | apply run_exit | (apply run_region (by decide); (simp only [go_sem, ↓reduceIte, Int.reduceAdd, Int.reduceEq, Int.reduceLE, Int.reduceLT, Int.reduceMul, Int.reduceNeg, Int.reduceSub, Int.reduceToNat, Nat.reduceAdd, Nat.reduceBEq, Nat.reduceEqDiff, Nat.reduceLT, Nat.reduceLeDiff, Nat.reduceMul, Nat.reduceSub, argR, c1, c2]; rfl)) | (refine run_cond_t ?_ ?_; · simp only [go_sem, ↓reduceIte, Nat.reduceEqDiff]) | (refine run_cond_f ?_ ?_; · simp only [go_sem, ↓reduceIte, Nat.reduceEqDiff]))
      exact end_nil (q_ret1 _ (by simp only [go_sem, ↓reduceIte, Int.reduceAdd, Int.reduceEq, Int.reduceLE, Int.reduceLT, Int.reduceMul, Int.reduceNeg, Int.reduceSub, Int.reduceToNat, Nat.reduceAdd, Nat.reduceBEq, Nat.reduceEqDiff, Nat.reduceLT, Nat.reduceLeDiff, Nat.reduceMul, Nat.reduceSub, e]) rfl (take_app _ _))

/-- far -/
theorem far97 (a b : Int × Int) (h : SHeap) (ha : inR a) (hb : inR b) : M.call 97 [.agg #[.int .i64 a.1, .int .i64 a.2], .agg #[.int .i64 b.1, .int .i64 b.2]] h = some (.int .i64 (far a b), h, []) := by
  obtain ⟨a1, a2, a3, a4⟩ := ha
  obtain ⟨b1, b2, b3, b4⟩ := hb
  have w1 : IntKind.i64.wrap (a.1 - b.1) = a.1 - b.1 := wrap64 (by omega) (by omega)
  have w3 : IntKind.i64.wrap (a.2 - b.2) = a.2 - b.2 := wrap64 (by omega) (by omega)
  have p1 : ((a.1 - b.1) * (a.1 - b.1)).natAbs ≤ 1600 := Nat.le_trans (mul_bound (m := 40) (n := 40) (by omega) (by omega)) (by decide)
  have p2 : ((a.2 - b.2) * (a.2 - b.2)).natAbs ≤ 1600 := Nat.le_trans (mul_bound (m := 40) (n := 40) (by omega) (by omega)) (by decide)
  have w5 : IntKind.i64.wrap ((a.1 - b.1) * (a.1 - b.1)) = (a.1 - b.1) * (a.1 - b.1) := wrap_abs (by omega)
  have w6 : IntKind.i64.wrap ((a.2 - b.2) * (a.2 - b.2)) = (a.2 - b.2) * (a.2 - b.2) := wrap_abs (by omega)
  have w7 : IntKind.i64.wrap ((a.1 - b.1) * (a.1 - b.1) + (a.2 - b.2) * (a.2 - b.2)) = far a b := wrap_abs (by omega)
  refine call_run sf97 rfl rfl rfl ?_
  unfold sf97
  repeat (first | apply run_seq | apply run_block | apply end_seq | apply end_blk_hit | apply end_blk_miss rfl | apply end_blk | apply end_seq_exit | apply end_seq_ret | apply end_blk_ret | apply run_skip | apply run_ret | apply run_exit | (apply run_region (by decide); (simp only [go_sem, ↓reduceIte, Int.reduceAdd, Int.reduceEq, Int.reduceLE, Int.reduceLT, Int.reduceMul, Int.reduceNeg, Int.reduceSub, Int.reduceToNat, Nat.reduceAdd, Nat.reduceBEq, Nat.reduceEqDiff, Nat.reduceLT, Nat.reduceLeDiff, Nat.reduceMul, Nat.reduceSub, argR, w1, w3, w5, w6, w7]; rfl)) | (refine run_cond_t ?_ ?_; · simp only [go_sem, ↓reduceIte, Nat.reduceEqDiff]) | (refine run_cond_f ?_ ?_; · simp only [go_sem, ↓reduceIte, Nat.reduceEqDiff]))
  exact end_nil (q_ret1 _ (by simp only [go_sem, ↓reduceIte, Int.reduceAdd, Int.reduceEq, Int.reduceLE, Int.reduceLT, Int.reduceMul, Int.reduceNeg, Int.reduceSub, Int.reduceToNat, Nat.reduceAdd, Nat.reduceBEq, Nat.reduceEqDiff, Nat.reduceLT, Nat.reduceLeDiff, Nat.reduceMul, Nat.reduceSub]) rfl (take_app _ _))
end Go.Proofs.Ytecncmmkghmojaa.Sh

