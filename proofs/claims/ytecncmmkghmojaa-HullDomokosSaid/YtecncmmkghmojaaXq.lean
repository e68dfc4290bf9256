/- Tips of the document; comparing numbers; the law of the rests. -/
import Derived.Test.YtecncmmkghmojaaXp
import Derived.Test.YtecncmmkghmojaaH5
set_option linter.all false
namespace Go.Proofs.Ytecncmmkghmojaa.Sh
open Go Geo
set_option maxRecDepth 100000

/-- Rests, Firm and Tips -/
theorem natV_sc (L : List Nat) : (natV L).all sc = true := by
  unfold natV
  exact mkI_sc _
theorem rests27 {h : SHeap} {v : Value} {l : List (Int × Int)} (hv : PS h v l) (T : Tame l) (test : Nat → Bool) (ht : ∀ i, test i = restB (mX l) (mY l) (mD l) (cn l i) (cn l ((i + 1) % l.length))) :
    M.call 27 [v] h = some (.tuple #[resV h ((List.range l.length).filter test).length 1, .int .i64 0], resH h (natV ((List.range l.length).filter test)) ((List.range l.length).filter test).length 3, []) := by
  have c69 := those69 hv T 70 71 test (fun h b hb => bound70 hb) (fun h b cb c i hb hi => by rw [ht i]; exact rests71 hb T.fine T.inr T.hi hi)
  have A := AccS.ofRes h 3 (cs := natV ((List.range l.length).filter test)) (n := ((List.range l.length).filter test).length) (s := 1) (by simp [natV]) (natV_sc _)
  obtain ⟨va, vc, rfl, -⟩ := hv
  generalize hu : resV h ((List.range l.length).filter test).length 1 = u at *
  refine call_run sf27 rfl rfl rfl ?_
  unfold sf27
  repeat (first | apply run_seq | apply run_block | apply end_seq | apply end_blk_hit | apply end_blk_miss rfl | apply end_blk | apply end_seq_exit | apply end_seq_ret | apply end_blk_ret | apply run_skip | apply run_ret | apply run_exit | (apply run_region (by decide); (simp only [go_sem, ↓reduceIte, Int.reduceAdd, Int.reduceEq, Int.reduceLE, Int.reduceLT, Int.reduceMul, Int.reduceNeg, Int.reduceSub, Int.reduceToNat, Nat.reduceAdd, Nat.reduceBEq, Nat.reduceEqDiff, Nat.reduceLT, Nat.reduceLeDiff, Nat.reduceMul, Nat.reduceSub, argR, c69]; rfl)) | (refine run_cond_t ?_ ?_; · simp only [go_sem, ↓reduceIte, Nat.reduceEqDiff]) | (refine run_cond_f ?_ ?_; · simp only [go_sem, ↓reduceIte, Nat.reduceEqDiff]))
  refine end_nil (A.at0.q2 (.int .i64 0) (by rw [hu]) rfl ?_ ?_ rfl)
  · simp only [go_sem, ↓reduceIte, Int.reduceAdd, Int.reduceEq, Int.reduceLE, Int.reduceLT, Int.reduceMul, Int.reduceNeg, Int.reduceSub, Int.reduceToNat, Nat.reduceAdd, Nat.reduceBEq, Nat.reduceEqDiff, Nat.reduceLT, Nat.reduceLeDiff, Nat.reduceMul, Nat.reduceSub]
  · simp only [go_sem, ↓reduceIte, Int.reduceAdd, Int.reduceEq, Int.reduceLE, Int.reduceLT, Int.reduceMul, Int.reduceNeg, Int.reduceSub, Int.reduceToNat, Nat.reduceAdd, Nat.reduceBEq, Nat.reduceEqDiff, Nat.reduceLT, Nat.reduceLeDiff, Nat.reduceMul, Nat.reduceSub]

theorem firm37 {h : SHeap} {v : Value} {l : List (Int × Int)} (hv : PS h v l) (T : Tame l) (test : Nat → Bool) (ht : ∀ i, test i = firmB (mX l) (mY l) (mD l) (cn l i) (cn l ((i + 1) % l.length))) :
    M.call 37 [v] h = some (.tuple #[resV h ((List.range l.length).filter test).length 1, .int .i64 0], resH h (natV ((List.range l.length).filter test)) ((List.range l.length).filter test).length 3, []) := by
  have c69 := those69 hv T 74 75 test (fun h b hb => bound74 hb) (fun h b cb c i hb hi => by rw [ht i]; exact firm75 hb T.fine T.inr T.hi hi)
  have A := AccS.ofRes h 3 (cs := natV ((List.range l.length).filter test)) (n := ((List.range l.length).filter test).length) (s := 1) (by simp [natV]) (natV_sc _)
  obtain ⟨va, vc, rfl, -⟩ := hv
  generalize hu : resV h ((List.range l.length).filter test).length 1 = u at *
  refine call_run sf37 rfl rfl rfl ?_
  unfold sf37
  repeat (first | apply run_seq | apply run_block | apply end_seq | apply end_blk_hit | apply end_blk_miss rfl | apply end_blk | apply end_seq_exit | apply end_seq_ret | apply end_blk_ret | apply run_skip | apply run_ret | apply run_exit | (apply run_region (by decide); (simp only [go_sem, ↓reduceIte, Int.reduceAdd, Int.reduceEq, Int.reduceLE, Int.reduceLT, Int.reduceMul, Int.reduceNeg, Int.reduceSub, Int.reduceToNat, Nat.reduceAdd, Nat.reduceBEq, Nat.reduceEqDiff, Nat.reduceLT, Nat.reduceLeDiff, Nat.reduceMul, Nat.reduceSub, argR, c69]; rfl)) | (refine run_cond_t ?_ ?_; · simp only [go_sem, ↓reduceIte, Nat.reduceEqDiff]) | (refine run_cond_f ?_ ?_; · simp only [go_sem, ↓reduceIte, Nat.reduceEqDiff]))
  refine end_nil (A.at0.q2 (.int .i64 0) (by rw [hu]) rfl ?_ ?_ rfl)
  · simp only [go_sem, ↓reduceIte, Int.reduceAdd, Int.reduceEq, Int.reduceLE, Int.reduceLT, Int.reduceMul, Int.reduceNeg, Int.reduceSub, Int.reduceToNat, Nat.reduceAdd, Nat.reduceBEq, Nat.reduceEqDiff, Nat.reduceLT, Nat.reduceLeDiff, Nat.reduceMul, Nat.reduceSub]
  · simp only [go_sem, ↓reduceIte, Int.reduceAdd, Int.reduceEq, Int.reduceLE, Int.reduceLT, Int.reduceMul, Int.reduceNeg, Int.reduceSub, Int.reduceToNat, Nat.reduceAdd, Nat.reduceBEq, Nat.reduceEqDiff, Nat.reduceLT, Nat.reduceLeDiff, Nat.reduceMul, Nat.reduceSub]

theorem tips38 {h : SHeap} {v : Value} {l : List (Int × Int)} (hv : PS h v l) (T : Tame l) (test : Nat → Bool) (ht : ∀ i, test i = tipB (mX l) (mY l) (mD l) (cn l i) (cn l ((i + 1) % l.length)) (cn l ((i + l.length - 1) % l.length))) :
    M.call 38 [v] h = some (.tuple #[resV h ((List.range l.length).filter test).length 1, .int .i64 0], resH h (natV ((List.range l.length).filter test)) ((List.range l.length).filter test).length 3, []) := by
  have c69 := those69 hv T 76 77 test (fun h b hb => bound76 hb) (fun h b cb c i hb hi => by rw [ht i]; exact tip77 hb T.fine T.inr T.hi hi)
  have A := AccS.ofRes h 3 (cs := natV ((List.range l.length).filter test)) (n := ((List.range l.length).filter test).length) (s := 1) (by simp [natV]) (natV_sc _)
  obtain ⟨va, vc, rfl, -⟩ := hv
  generalize hu : resV h ((List.range l.length).filter test).length 1 = u at *
  refine call_run sf38 rfl rfl rfl ?_
  unfold sf38
  repeat (first | apply run_seq | apply run_block | apply end_seq | apply end_blk_hit | apply end_blk_miss rfl | apply end_blk | apply end_seq_exit | apply end_seq_ret | apply end_blk_ret | apply run_skip | apply run_ret | apply run_exit | (apply run_region (by decide); (simp only [go_sem, ↓reduceIte, Int.reduceAdd, Int.reduceEq, Int.reduceLE, Int.reduceLT, Int.reduceMul, Int.reduceNeg, Int.reduceSub, Int.reduceToNat, Nat.reduceAdd, Nat.reduceBEq, Nat.reduceEqDiff, Nat.reduceLT, Nat.reduceLeDiff, Nat.reduceMul, Nat.reduceSub, argR, c69]; rfl)) | (refine run_cond_t ?_ ?_; · simp only [go_sem, ↓reduceIte, Nat.reduceEqDiff]) | (refine run_cond_f ?_ ?_; · simp only [go_sem, ↓reduceIte, Nat.reduceEqDiff]))
  refine end_nil (A.at0.q2 (.int .i64 0) (by rw [hu]) rfl ?_ ?_ rfl)
  · simp only [go_sem, ↓reduceIte, Int.reduceAdd, Int.reduceEq, Int.reduceLE, Int.reduceLT, Int.reduceMul, Int.reduceNeg, Int.reduceSub, Int.reduceToNat, Nat.reduceAdd, Nat.reduceBEq, Nat.reduceEqDiff, Nat.reduceLT, Nat.reduceLeDiff, Nat.reduceMul, Nat.reduceSub]
  · simp only [go_sem, ↓reduceIte, Int.reduceAdd, Int.reduceEq, Int.reduceLE, Int.reduceLT, Int.reduceMul, Int.reduceNeg, Int.reduceSub, Int.reduceToNat, Nat.reduceAdd, Nat.reduceBEq, Nat.reduceEqDiff, Nat.reduceLT, Nat.reduceLeDiff, Nat.reduceMul, Nat.reduceSub]

/-- a result of numbers, in any longer heap -/
theorem IS.ofRes (h g : SHeap) (L : List Nat) (el : TypeId) : IS (resH h (natV L) L.length el ++ g) (resV h L.length 1) (L.map fun (i : Nat) => (i : Int)) := by
  by_cases hn : L.length = 0
  · have : L = [] := by cases L <;> simp_all
    subst this
    exact ⟨none, 0, rfl, fun h => (h rfl).elim⟩
  · simp only [resH, resV, hn, if_false]
    refine ⟨_, _, by rw [List.length_map], fun _ => ⟨_, rfl, el, true, 0, [], ?_, rfl⟩⟩
    rw [List.append_assoc, app_get0]; rfl
theorem IS.app {h : SHeap} {v : Value} {l : List Int} (k : IS h v l) (g : SHeap) : IS (h ++ g) v l := by
  obtain ⟨a, c, rfl, k⟩ := k
  exact ⟨a, c, rfl, fun hn => let ⟨b, e, p⟩ := k hn; ⟨b, e, p.app g⟩⟩
theorem IS.shape {h : SHeap} {v : Value} {l : List Int} (k : IS h v l) : ∃ a c, v = .slice a l.length c := by
  obtain ⟨a, c, rfl, _⟩ := k; exact ⟨_, _, rfl⟩

/-- the three tests -/
def tRest (l : List (Int × Int)) (i : Nat) : Bool := restB (mX l) (mY l) (mD l) (cn l i) (cn l ((i + 1) % l.length))
def tFirm (l : List (Int × Int)) (i : Nat) : Bool := firmB (mX l) (mY l) (mD l) (cn l i) (cn l ((i + 1) % l.length))
def tTip (l : List (Int × Int)) (i : Nat) : Bool := tipB (mX l) (mY l) (mD l) (cn l i) (cn l ((i + 1) % l.length)) (cn l ((i + l.length - 1) % l.length))
def those (l : List (Int × Int)) (test : Nat → Bool) : List Nat := (List.range l.length).filter test
theorem those_len (l : List (Int × Int)) (test : Nat → Bool) : (those l test).length ≤ l.length := filter_le _ _

/-- a call that returns numbers: its result and its heap -/
theorem nums_ex {f : FuncId} {args : List Value} {h : SHeap} {L : List Nat} {e : Value → Value} (c : M.call f args h = some (e (resV h L.length 1), resH h (natV L) L.length 3, [])) :
    ∃ u g, M.call f args h = some (e u, h ++ g, []) ∧ IS (h ++ g) u (L.map fun (i : Nat) => (i : Int)) := by
  obtain ⟨g, hg⟩ := resH_app h (natV L) L.length 3
  refine ⟨resV h L.length 1, g, by rw [c, hg], ?_⟩
  have := IS.ofRes h [] L 3
  rw [hg, List.append_nil] at this
  exact this

end Go.Proofs.Ytecncmmkghmojaa.Sh

