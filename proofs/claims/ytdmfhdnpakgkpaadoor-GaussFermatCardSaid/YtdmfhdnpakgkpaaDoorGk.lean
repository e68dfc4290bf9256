/- CountSquares, the program's and the document's. -/
import Derived.Test.YtdmfhdnpakgkpaaDoorGj
set_option linter.all false
namespace Go.Proofs.YtdmfhdnpakgkpaaDoor.Sh
open Go
set_option maxRecDepth 100000

theorem resH_pre (h : SHeap) (cs : List Value) (n : Nat) (el : TypeId) : ∃ g, resH h cs n el = h ++ g := by
  unfold resH; split
  · exact ⟨[], by simp⟩
  · exact ⟨_, rfl⟩
theorem PS.ofRes (h g : SHeap) (L : List (Int × Int)) (el : TypeId) : PS (resH h (prs L) L.length el ++ g) (resV h L.length 2) L := by
  by_cases hn : L.length = 0
  · have : L = [] := List.length_eq_zero_iff.1 hn
    subst this
    exact ⟨none, 0, rfl, fun h => (h rfl).elim⟩
  · simp only [resH, resV, hn, if_false]
    rw [List.append_assoc]
    exact PS.mk0 (el := el) (by rw [app_get0]; rfl) rfl
theorem sqs_len {n : Nat} (hn : n ≤ 1000000) : (sqs n).length ≤ 1000002 := by
  have h1 := sqL_len n (topA n)
  have h2 : topA n < n + 2 := by
    unfold topA
    cases h : (List.range (n + 2)).find? (fun a => decide (n < 2 * a * a)) with
    | none => show 0 < n + 2; omega
    | some x => exact List.mem_range.1 (List.mem_of_find?_eq_some h)
  unfold sqs; omega

/-- CountSquares -/
theorem count18 {n : Nat} (hn : n ≤ 1000000) (h : SHeap) : M.call 18 [.int .i64 n] h = some (.tuple #[.int .i64 (cnt (sqs n)), .int .i64 0], h, []) := by
  have c58 := squares58 hn h
  have hu := PS.ofRes h [] (sqs n) 34
  rw [List.append_nil] at hu
  obtain ⟨g0, hg0⟩ := resH_pre h (prs (sqs n)) (sqs n).length 34
  have hl := sqs_len hn
  generalize resV h (sqs n).length 2 = u at *
  generalize resH h (prs (sqs n)) (sqs n).length 34 = H' at *
  obtain ⟨a, c, hus, hk⟩ := hu
  have e1 : ¬ ((n : Int) < 0) := by omega
  have e2 : ¬ ((1000000 : Int) < n) := by omega
  subst hus
  refine call_run sf18 rfl rfl rfl ?_
  unfold sf18
  repeat (first | apply run_seq | apply run_block | apply end_seq | apply end_blk_hit | apply end_blk_miss rfl | apply end_blk | apply end_seq_exit | apply end_seq_ret | apply end_blk_ret | apply run_skip | apply run_ret | apply run_exit | (apply run_region (by decide); (simp only [go_sem, argR, e1, e2, c58]; rfl)) | (apply run_regionN (by decide); (simp only [go_sem, argR, e1, e2, c58]; rfl)) | (refine run_cond_t ?_ ?_; · simp only [go_sem]) | (refine run_cond_f ?_ ?_; · simp only [go_sem]))
  refine run_loop (count_loop _ (H := H') (u := .slice a (sqs n).length c) (L := sqs n) ⟨a, c, rfl, hk⟩ hl (sqs n).length _ _ _ _ ⟨0, by omega, ?_, ?_, ?_, ?_, ⟨[], by simp⟩, rfl, rfl⟩) ?_
  · (simp only [go_sem]) <;> rfl
  · simp only [go_sem]
  · simp only [go_sem]
  · (simp only [go_sem]) <;> rfl
  rintro ex ρ' ms' h1 d1 ⟨rfl, k4, ⟨g, rfl⟩, rfl, rfl⟩
  repeat (first | apply run_seq | apply run_block | apply end_seq | apply end_blk_hit | apply end_blk_miss rfl | apply end_blk | apply end_seq_exit | apply end_seq_ret | apply end_blk_ret | apply run_skip | apply run_ret | apply run_exit | (apply run_region (by decide); (simp only [go_sem, k4]; rfl)) | (apply run_regionN (by decide); (simp only [go_sem, k4]; rfl)) | (refine run_cond_t ?_ ?_; · simp only [go_sem]) | (refine run_cond_f ?_ ?_; · simp only [go_sem]))
  exact end_nil (q_ret2 _ _ (by simp only [go_sem]) (by simp only [go_sem]) rfl rfl (by rw [hg0, List.append_assoc]; exact take_app _ _))

end Go.Proofs.YtdmfhdnpakgkpaaDoor.Sh

