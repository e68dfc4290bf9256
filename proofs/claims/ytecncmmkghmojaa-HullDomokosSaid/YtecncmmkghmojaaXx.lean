/- The law of the falls. -/
import Derived.Test.YtecncmmkghmojaaXw
set_option linter.all false
namespace Go.Proofs.Ytecncmmkghmojaa.Sh
open Go Geo
set_option maxRecDepth 100000

theorem has_loop (cx : Cx) {h : SHeap} {v : Value} {a : List Int} (x : Int) (hv : IS h v a) (hs : a.length < 4611686018427387904) : ∀ k ρ ms h' d', (∃ i : Nat, i + k = a.length ∧ ρ 0 = v ∧ ρ 1 = .int .i64 x ∧ ρ 5 = .int .i64 i ∧ x ∉ a.take i ∧ ms = [] ∧ h' = h ∧ d' = []) →
    LoopW M cx 5 sf28L0 ρ ms h' d' (fun ex ρ' ms' h' d' => ms' = [] ∧ h' = h ∧ d' = [] ∧ ((ex = .exit 0 ∧ x ∉ a) ∨ (ex = .ret ∧ ρ' 4 = .bool true ∧ x ∈ a))) := by
  obtain ⟨va, ca, rfl, ka⟩ := hv
  refine loop_run _ ?_
  rintro k ρ ms h' d' ⟨i, hi, h0, h1, h5, he, rfl, rfl, rfl⟩
  unfold sf28L0
  by_cases hk : k = 0
  · have e1 : ¬ ((i : Int) < a.length) := by omega
    have ei : i = a.length := by omega
    repeat (first | apply run_seq | apply run_block | apply end_seq | apply end_blk_hit | apply end_blk_miss rfl | apply end_blk | apply end_seq_exit | apply end_seq_ret | apply end_blk_ret | apply run_skip | apply run_ret | apply run_exit | (apply run_region (by decide); (simp only [go_sem, ↓reduceIte, Int.reduceAdd, Int.reduceEq, Int.reduceLE, Int.reduceLT, Int.reduceMul, Int.reduceNeg, Int.reduceSub, Int.reduceToNat, Nat.reduceAdd, Nat.reduceBEq, Nat.reduceEqDiff, Nat.reduceLT, Nat.reduceLeDiff, Nat.reduceMul, Nat.reduceSub, h0, h1, h5, e1]; rfl)) | (refine run_cond_t ?_ ?_; · simp only [go_sem, ↓reduceIte, Nat.reduceEqDiff]) | (refine run_cond_f ?_ ?_; · simp only [go_sem, ↓reduceIte, Nat.reduceEqDiff]))
    refine end_nil ⟨rfl, rfl, rfl, .inl ⟨rfl, ?_⟩⟩
    rw [ei, List.take_length] at he
    exact he
  · have e1 : (i : Int) < a.length := by omega
    have e2 : (0 : Int) ≤ i := by omega
    have hia : i < a.length := by omega
    have ew : IntKind.i64.wrap ((i : Int) + 1) = ((i + 1 : Nat) : Int) := by rw [wrap64 (by omega) (by omega)]; rfl
    obtain ⟨ba, rfl, pa⟩ := ka (by intro e; rw [e] at hia; simp at hia)
    have l1 := pa.load hia
    have t1 : a.take (i + 1) = a.take i ++ [a[i]] := by rw [List.take_add_one, List.getElem?_eq_getElem hia]; rfl
    have hmem : a[i] ∈ a := List.getElem_mem hia
    generalize a[i] = p at *
    by_cases hpq : p = x
    · subst hpq
      repeat (first | apply run_seq | apply run_block | apply end_seq | apply end_blk_hit | apply end_blk_miss rfl | apply end_blk | apply end_seq_exit | apply end_seq_ret | apply end_blk_ret | apply run_skip | apply run_ret | apply run_exit | (apply run_region (by decide); (simp only [go_sem, ↓reduceIte, Int.reduceAdd, Int.reduceEq, Int.reduceLE, Int.reduceLT, Int.reduceMul, Int.reduceNeg, Int.reduceSub, Int.reduceToNat, Nat.reduceAdd, Nat.reduceBEq, Nat.reduceEqDiff, Nat.reduceLT, Nat.reduceLeDiff, Nat.reduceMul, Nat.reduceSub, h0, h1, h5, e1, e2, l1, ew, Int.toNat_natCast]; rfl)) | (refine run_cond_t ?_ ?_; · simp only [go_sem, ↓reduceIte, Nat.reduceEqDiff]) | (refine run_cond_f ?_ ?_; · simp only [go_sem, ↓reduceIte, Nat.reduceEqDiff]))
      refine end_nil ⟨rfl, rfl, rfl, .inr ⟨rfl, ?_, hmem⟩⟩
      simp only [go_sem, ↓reduceIte, Int.reduceAdd, Int.reduceEq, Int.reduceLE, Int.reduceLT, Int.reduceMul, Int.reduceNeg, Int.reduceSub, Int.reduceToNat, Nat.reduceAdd, Nat.reduceBEq, Nat.reduceEqDiff, Nat.reduceLT, Nat.reduceLeDiff, Nat.reduceMul, Nat.reduceSub]
    · repeat (first | apply run_seq | apply run_block | apply end_seq | apply end_blk_hit | apply end_blk_miss rfl | apply end_blk | apply end_seq_exit | apply end_seq_ret | apply end_blk_ret | apply run_skip | apply run_ret | apply run_exit | (apply run_region (by decide); (simp only [go_sem, ↓reduceIte, Int.reduceAdd, Int.reduceEq, Int.reduceLE, Int.reduceLT, Int.reduceMul, Int.reduceNeg, Int.reduceSub, Int.reduceToNat, Nat.reduceAdd, Nat.reduceBEq, Nat.reduceEqDiff, Nat.reduceLT, Nat.reduceLeDiff, Nat.reduceMul, Nat.reduceSub, h0, h1, h5, e1, e2, l1, hpq, ew, Int.toNat_natCast]; rfl)) | (refine run_cond_t ?_ ?_; · simp only [go_sem, ↓reduceIte, Nat.reduceEqDiff]) | (refine run_cond_f ?_ ?_; · simp only [go_sem, ↓reduceIte, Nat.reduceEqDiff]))
      refine end_nil ⟨k - 1, by omega, i + 1, by omega, ?_, ?_, ?_, ?_, rfl, rfl, rfl⟩
      · simp only [go_sem, ↓reduceIte, Int.reduceAdd, Int.reduceEq, Int.reduceLE, Int.reduceLT, Int.reduceMul, Int.reduceNeg, Int.reduceSub, Int.reduceToNat, Nat.reduceAdd, Nat.reduceBEq, Nat.reduceEqDiff, Nat.reduceLT, Nat.reduceLeDiff, Nat.reduceMul, Nat.reduceSub, h0]
      · simp only [go_sem, ↓reduceIte, Int.reduceAdd, Int.reduceEq, Int.reduceLE, Int.reduceLT, Int.reduceMul, Int.reduceNeg, Int.reduceSub, Int.reduceToNat, Nat.reduceAdd, Nat.reduceBEq, Nat.reduceEqDiff, Nat.reduceLT, Nat.reduceLeDiff, Nat.reduceMul, Nat.reduceSub, h1]
      · simp only [go_sem, ↓reduceIte, Int.reduceAdd, Int.reduceEq, Int.reduceLE, Int.reduceLT, Int.reduceMul, Int.reduceNeg, Int.reduceSub, Int.reduceToNat, Nat.reduceAdd, Nat.reduceBEq, Nat.reduceEqDiff, Nat.reduceLT, Nat.reduceLeDiff, Nat.reduceMul, Nat.reduceSub, ew]
      · rw [t1]
        intro hm
        rcases List.mem_append.1 hm with hm | hm
        · exact he hm
        · simp at hm; exact hpq hm.symm

/-- has -/
theorem has28 {h : SHeap} {v : Value} {a : List Int} (x : Int) (hv : IS h v a) (hs : a.length < 4611686018427387904) : M.call 28 [v, .int .i64 x] h = some (.bool (decide (x ∈ a)), h, []) := by
  have hv0 := hv
  obtain ⟨va, ca, rfl, ka⟩ := hv
  refine call_run sf28 rfl rfl rfl ?_
  unfold sf28
  repeat (first | apply run_seq | apply run_block | apply end_seq | apply end_blk_hit | apply end_blk_miss rfl | apply end_blk | apply end_seq_exit | apply end_seq_ret | apply end_blk_ret | apply run_skip | apply run_ret | apply run_exit | (apply run_region (by decide); (simp only [go_sem, ↓reduceIte, Int.reduceAdd, Int.reduceEq, Int.reduceLE, Int.reduceLT, Int.reduceMul, Int.reduceNeg, Int.reduceSub, Int.reduceToNat, Nat.reduceAdd, Nat.reduceBEq, Nat.reduceEqDiff, Nat.reduceLT, Nat.reduceLeDiff, Nat.reduceMul, Nat.reduceSub, argR]; rfl)) | (refine run_cond_t ?_ ?_; · simp only [go_sem, ↓reduceIte, Nat.reduceEqDiff]) | (refine run_cond_f ?_ ?_; · simp only [go_sem, ↓reduceIte, Nat.reduceEqDiff]))
  refine run_loop (has_loop _ x hv0 hs a.length _ _ _ _ ⟨0, by omega, by simp only [go_sem, ↓reduceIte, Int.reduceAdd, Int.reduceEq, Int.reduceLE, Int.reduceLT, Int.reduceMul, Int.reduceNeg, Int.reduceSub, Int.reduceToNat, Nat.reduceAdd, Nat.reduceBEq, Nat.reduceEqDiff, Nat.reduceLT, Nat.reduceLeDiff, Nat.reduceMul, Nat.reduceSub, argR], by simp only [go_sem, ↓reduceIte, Int.reduceAdd, Int.reduceEq, Int.reduceLE, Int.reduceLT, Int.reduceMul, Int.reduceNeg, Int.reduceSub, Int.reduceToNat, Nat.reduceAdd, Nat.reduceBEq, Nat.reduceEqDiff, Nat.reduceLT, Nat.reduceLeDiff, Nat.reduceMul, Nat.reduceSub, argR], by (simp only [go_sem, ↓reduceIte, Int.reduceAdd, Int.reduceEq, Int.reduceLE, Int.reduceLT, Int.reduceMul, Int.reduceNeg, Int.reduceSub, Int.reduceToNat, Nat.reduceAdd, Nat.reduceBEq, Nat.reduceEqDiff, Nat.reduceLT, Nat.reduceLeDiff, Nat.reduceMul, Nat.reduceSub]) <;> rfl, by simp, rfl, rfl, rfl⟩) ?_
  rintro ex ρ' ms' h1 d1 ⟨rfl, rfl, rfl, ⟨rfl, he⟩ | ⟨rfl, h4, he⟩⟩
  · rw [decide_eq_false he]
    repeat (first | apply run_seq | apply run_block | apply end_seq | apply end_blk_hit | apply end_blk_miss rfl | apply end_blk | apply end_seq_exit | apply end_seq_ret | apply end_blk_ret | apply run_skip | apply run_ret | apply run_exit | (apply run_region (by decide); (simp only [go_sem, ↓reduceIte, Int.reduceAdd, Int.reduceEq, Int.reduceLE, Int.reduceLT, Int.reduceMul, Int.reduceNeg, Int.reduceSub, Int.reduceToNat, Nat.reduceAdd, Nat.reduceBEq, Nat.reduceEqDiff, Nat.reduceLT, Nat.reduceLeDiff, Nat.reduceMul, Nat.reduceSub]; rfl)) | (refine run_cond_t ?_ ?_; · simp only [go_sem, ↓reduceIte, Nat.reduceEqDiff]) | (refine run_cond_f ?_ ?_; · simp only [go_sem, ↓reduceIte, Nat.reduceEqDiff]))
    exact end_nil (q_ret1 _ (by simp only [go_sem, ↓reduceIte, Int.reduceAdd, Int.reduceEq, Int.reduceLE, Int.reduceLT, Int.reduceMul, Int.reduceNeg, Int.reduceSub, Int.reduceToNat, Nat.reduceAdd, Nat.reduceBEq, Nat.reduceEqDiff, Nat.reduceLT, Nat.reduceLeDiff, Nat.reduceMul, Nat.reduceSub]) rfl (take_self _))
  · rw [decide_eq_true he]
    repeat (first | apply run_seq | apply run_block | apply end_seq | apply end_blk_hit | apply end_blk_miss rfl | apply end_blk | apply end_seq_exit | apply end_seq_ret | apply end_blk_ret | apply run_skip | apply run_ret | apply run_exit | (apply run_region (by decide); (simp only [go_sem, ↓reduceIte, Int.reduceAdd, Int.reduceEq, Int.reduceLE, Int.reduceLT, Int.reduceMul, Int.reduceNeg, Int.reduceSub, Int.reduceToNat, Nat.reduceAdd, Nat.reduceBEq, Nat.reduceEqDiff, Nat.reduceLT, Nat.reduceLeDiff, Nat.reduceMul, Nat.reduceSub]; rfl)) | (refine run_cond_t ?_ ?_; · simp only [go_sem, ↓reduceIte, Nat.reduceEqDiff]) | (refine run_cond_f ?_ ?_; · simp only [go_sem, ↓reduceIte, Nat.reduceEqDiff]))
    exact end_nil (q_ret1 _ h4 rfl (take_self _))

/-- lean: can this be a lean? -/
theorem lean30 {a b : Int} (h : SHeap) (a1 : 0 < a) (a2 : a < 10000000000000000) (b1 : 0 < b) (b2 : b < 10000000000000000) : M.call 30 [.agg #[.int .i64 a, .int .i64 b]] h = some (.bool true, h, []) := by
  refine call_run sf30 rfl rfl rfl ?_
  unfold sf30
  repeat (first | apply run_seq | apply run_block | apply end_seq | apply end_blk_hit | apply end_blk_miss rfl | apply end_blk | apply end_seq_exit | apply end_seq_ret | apply end_blk_ret | apply run_skip | apply run_ret | apply run_exit | (apply run_region (by decide); (simp only [go_sem, ↓reduceIte, Int.reduceAdd, Int.reduceEq, Int.reduceLE, Int.reduceLT, Int.reduceMul, Int.reduceNeg, Int.reduceSub, Int.reduceToNat, Nat.reduceAdd, Nat.reduceBEq, Nat.reduceEqDiff, Nat.reduceLT, Nat.reduceLeDiff, Nat.reduceMul, Nat.reduceSub, argR, a1, a2, b1, b2]; rfl)) | (refine run_cond_t ?_ ?_; · simp only [go_sem, ↓reduceIte, Nat.reduceEqDiff]) | (refine run_cond_f ?_ ?_; · simp only [go_sem, ↓reduceIte, Nat.reduceEqDiff]))
  exact end_nil (q_ret1 _ (by simp only [go_sem, ↓reduceIte, Int.reduceAdd, Int.reduceEq, Int.reduceLE, Int.reduceLT, Int.reduceMul, Int.reduceNeg, Int.reduceSub, Int.reduceToNat, Nat.reduceAdd, Nat.reduceBEq, Nat.reduceEqDiff, Nat.reduceLT, Nat.reduceLeDiff, Nat.reduceMul, Nat.reduceSub]) rfl (take_app _ _))

theorem mem_those {l : List (Int × Int)} {test : Nat → Bool} {x : Nat} (hx : x < l.length) : decide ((x : Int) ∈ (those l test).map fun (i : Nat) => (i : Int)) = test x := by
  have : ((x : Int) ∈ (those l test).map fun (i : Nat) => (i : Int)) ↔ test x = true := by
    simp only [those, List.mem_map, List.mem_filter, List.mem_range]
    constructor
    · rintro ⟨y, ⟨h1, h2⟩, h3⟩
      have : y = x := by omega
      rw [← this]; exact h2
    · intro h; exact ⟨x, ⟨hx, h⟩, rfl⟩
  cases ht : test x
  · exact decide_eq_false (fun h => by rw [this, ht] at h; cases h)
  · exact decide_eq_true (this.2 ht)

end Go.Proofs.Ytecncmmkghmojaa.Sh

