/- GaussSquares: the law. -/
import Derived.Test.YtdmfhdnpakgkpaaDoorGk
import Derived.Test.YtdmfhdnpakgkpaaDoorGd
set_option linter.all false
namespace Go.Proofs.YtdmfhdnpakgkpaaDoor.Sh
open Go
set_option maxRecDepth 100000

theorem topA_low {n c : Nat} (h : c < topA n) : 2 * c * c ≤ n := by
  unfold topA at h
  cases hf : (List.range (n + 2)).find? (fun a => decide (n < 2 * a * a)) with
  | none => rw [hf] at h; exact absurd h (by simp)
  | some x =>
    rw [hf] at h
    rw [List.find?_range_eq_some] at hf
    have := hf.2.2 c h
    simpa using this
theorem sqs_pos {n : Nat} : ∀ q ∈ sqs n, 0 ≤ q.1 ∧ q.1 ≤ q.2 := by
  intro q hq
  unfold sqs sqL at hq
  obtain ⟨a, ha, hq⟩ := List.mem_flatMap.1 hq
  have h2 := topA_low (List.mem_range.1 ha)
  unfold sqAt at hq
  split at hq
  · rename_i b hb
    simp only [List.mem_singleton] at hq
    subst hq
    have h3 := List.find?_some hb
    simp at h3
    refine ⟨by show (0 : Int) ≤ (a : Int); omega, ?_⟩
    show (a : Int) ≤ (b : Int)
    by_cases c : a ≤ b
    · omega
    · have h4 := sq_mono (show b < a by omega)
      have h5 : 2 * a * a = 2 * (a * a) := Nat.mul_assoc _ _ _
      omega
  · cases hq

/-- CountSquares of the document -/
theorem countR21 {n : Nat} (hn : n ≤ 1000000) (h : SHeap) : M.call 21 [.int .i64 n] h = some (.int .i64 (cnt (sqs n)), h, []) := by
  have c20 := squaresR20 hn h
  have hu := PS.ofRes h [] (sqs n) 34
  rw [List.append_nil] at hu
  obtain ⟨g0, hg0⟩ := resH_pre h (prs (sqs n)) (sqs n).length 34
  have hl := sqs_len hn
  generalize resV h (sqs n).length 2 = u at *
  generalize resH h (prs (sqs n)) (sqs n).length 34 = H' at *
  obtain ⟨a, c, hus, hk⟩ := hu
  subst hus
  refine call_run sf21 rfl rfl rfl ?_
  unfold sf21
  repeat (first | apply run_seq | apply run_block | apply end_seq | apply end_blk_hit | apply end_blk_miss rfl | apply end_blk | apply end_seq_exit | apply end_seq_ret | apply end_blk_ret | apply run_skip | apply run_ret | apply run_exit | (apply run_region (by decide); (simp only [go_sem, argR, c20]; rfl)) | (refine run_cond_t ?_ ?_; · simp only [go_sem]) | (refine run_cond_f ?_ ?_; · simp only [go_sem]))
  refine run_loop (countR_loop _ (H := H') (u := .slice a (sqs n).length c) (L := sqs n) ⟨a, c, rfl, hk⟩ hl sqs_pos (sqs n).length _ _ _ _ ⟨0, by omega, ?_, ?_, ?_, rfl, rfl, rfl⟩) ?_
  · (simp only [go_sem]) <;> rfl
  · simp only [go_sem]
  · (simp only [go_sem]) <;> rfl
  rintro ex ρ' ms' h1 d1 ⟨rfl, k4, rfl, rfl, rfl⟩
  repeat (first | apply run_seq | apply run_block | apply end_seq | apply end_blk_hit | apply end_blk_miss rfl | apply end_blk | apply end_seq_exit | apply end_seq_ret | apply end_blk_ret | apply run_skip | apply run_ret | apply run_exit | (apply run_region (by decide); (simp only [go_sem, k4]; rfl)) | (refine run_cond_t ?_ ?_; · simp only [go_sem]) | (refine run_cond_f ?_ ?_; · simp only [go_sem]))
  exact end_nil (q_ret1 _ (by simp only [go_sem]) rfl (by rw [hg0]; exact take_app _ _))
theorem count18_no {z : Int} (hz : z < 0 ∨ 1000000 < z) (h : SHeap) : M.call 18 [.int .i64 z] h = some (.tuple #[.int .i64 0, .int .i64 1], h, []) := by
  refine call_run sf18 rfl rfl rfl ?_
  unfold sf18
  by_cases e1 : z < 0
  · repeat (first | apply run_seq | apply run_block | apply end_seq | apply end_blk_hit | apply end_blk_miss rfl | apply end_blk | apply end_seq_exit | apply end_seq_ret | apply end_blk_ret | apply run_skip | apply run_ret | apply run_exit | (apply run_region (by decide); (simp only [go_sem, argR, e1]; rfl)) | (refine run_cond_t ?_ ?_; · simp only [go_sem]) | (refine run_cond_f ?_ ?_; · simp only [go_sem]))
    exact end_nil (q_ret2 _ _ (by simp only [go_sem]) (by simp only [go_sem]) rfl rfl (take_self _))
  · have e2 : (1000000 : Int) < z := by omega
    repeat (first | apply run_seq | apply run_block | apply end_seq | apply end_blk_hit | apply end_blk_miss rfl | apply end_blk | apply end_seq_exit | apply end_seq_ret | apply end_blk_ret | apply run_skip | apply run_ret | apply run_exit | (apply run_region (by decide); (simp only [go_sem, argR, e1, e2]; rfl)) | (refine run_cond_t ?_ ?_; · simp only [go_sem]) | (refine run_cond_f ?_ ?_; · simp only [go_sem]))
    exact end_nil (q_ret2 _ _ (by simp only [go_sem]) (by simp only [go_sem]) rfl rfl (take_self _))
theorem q_nil2 {base i j : Nat} {ρ : Reg} {h h0 : SHeap} {k : IntKind} {w : Int} (hv : ρ i = .slice none 0 0) (hj : ρ j = .int k w) (ht : h.take base = h0) :
    callQ [.tmp i, .tmp j] base (.tuple #[.slice none 0 0, .int k w], h0, []) .ret ρ [] h [] := by
  refine ⟨rfl, ?_⟩
  show opn (ρ i) fun v' => opn (ρ j) fun w' => endW base h [] (_, _, []) [v', w']
  rw [hv, hj]
  refine ⟨_, _, ?_, rfl⟩
  show gcS base (.tuple #[.slice none 0 0, .int k w]) h = _
  unfold gcS
  have : ptrs 3 (.tuple #[.slice none 0 0, .int k w]) = [] := rfl
  rw [this]
  rw [show (1000000 : Nat) = 999999 + 1 from rfl, reach]
  simp [renV, mapO, ht]
theorem squares17_no {z : Int} (hz : z < 0 ∨ 1000000 < z) (h : SHeap) : M.call 17 [.int .i64 z] h = some (.tuple #[.slice none 0 0, .int .i64 1], h, []) := by
  refine call_run sf17 rfl rfl rfl ?_
  unfold sf17
  by_cases e1 : z < 0
  · repeat (first | apply run_seq | apply run_block | apply end_seq | apply end_blk_hit | apply end_blk_miss rfl | apply end_blk | apply end_seq_exit | apply end_seq_ret | apply end_blk_ret | apply run_skip | apply run_ret | apply run_exit | (apply run_region (by decide); (simp only [go_sem, argR, e1]; rfl)) | (refine run_cond_t ?_ ?_; · simp only [go_sem]) | (refine run_cond_f ?_ ?_; · simp only [go_sem]))
    exact end_nil (q_nil2 (by simp only [go_sem]) (by simp only [go_sem]) (take_self _))
  · have e2 : (1000000 : Int) < z := by omega
    repeat (first | apply run_seq | apply run_block | apply end_seq | apply end_blk_hit | apply end_blk_miss rfl | apply end_blk | apply end_seq_exit | apply end_seq_ret | apply end_blk_ret | apply run_skip | apply run_ret | apply run_exit | (apply run_region (by decide); (simp only [go_sem, argR, e1, e2]; rfl)) | (refine run_cond_t ?_ ?_; · simp only [go_sem]) | (refine run_cond_f ?_ ?_; · simp only [go_sem]))
    exact end_nil (q_nil2 (by simp only [go_sem]) (by simp only [go_sem]) (take_self _))
end Go.Proofs.YtdmfhdnpakgkpaaDoor.Sh

