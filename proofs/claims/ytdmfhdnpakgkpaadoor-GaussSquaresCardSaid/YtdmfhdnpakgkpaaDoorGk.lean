/- CountSquares, the program's and the document's. -/
import Derived.Test.YtdmfhdnpakgkpaaDoorGj
set_option linter.all false
namespace Go.Proofs.YtdmfhdnpakgkpaaDoor.Sh
open Go
set_option maxRecDepth 100000

theorem resH_pre (h : SHeap) (cs : List Value) (n : Nat) (el : TypeId) : ∃ g, resH h cs n el = h ++ g := by
  unfold resH; split
  · exact ⟨[], by simp⟩
  · exact ⟨_, rfl⟩
theorem PS.ofRes (h g : SHeap) (L : List (Int × Int)) (el : TypeId) : PS (resH h (prs L) L.length el ++ g) (resV h L.length 2) L := by
  by_cases hn : L.length = 0
  · have : L = [] := List.length_eq_zero_iff.1 hn
    subst this
    exact ⟨none, 0, rfl, fun h => (h rfl).elim⟩
  · simp only [resH, resV, hn, if_false]
    rw [List.append_assoc]
    exact PS.mk0 (el := el) (by rw [app_get0]; rfl) rfl
theorem sqs_len {n : Nat} (hn : n ≤ 1000000) : (sqs n).length ≤ 1000002 := by
  have h1 := sqL_len n (topA n)
  have h2 : topA n < n + 2 := by
    unfold topA
    cases h : (List.range (n + 2)).find? (fun a => decide (n < 2 * a * a)) with
    | none => show 0 < n + 2; omega
    | some x => exact List.mem_range.1 (List.mem_of_find?_eq_some h)
  unfold sqs; omega

/-- CountSquares -/
theorem count18 {n : Nat} (hn : n ≤ 1000000) (h : SHeap) : M.call 18 [.int .i64 n] h = some (.tuple #[.int .i64 (cnt (sqs n)), .int .i64 0], h, []) := by
  have c58 := squares58 hn h
  have hu := PS.ofRes h [] (sqs n) 34
  rw [List.append_nil] at hu
  obtain ⟨g0, hg0⟩ := resH_pre h (prs (sqs n)) (sqs n).length 34
  have hl := sqs_len hn
  generalize resV h (sqs n).length 2 = u at *
  generalize resH h (prs (sqs n)) (sqs n).length 34 = H' at *
  obtain ⟨a, c, hus, hk⟩ := hu
  have e1 : ¬ ((n : Int) < 0) := by omega
  have e2 : ¬ ((1000000 : Int) < n) := by omega
  subst hus
  refine call_run sf18 rfl rfl rfl ?_
  unfold sf18
  repeat (first | apply run_seq | apply run_block | apply end_seq | apply end_blk_hit | apply end_blk_miss rfl | apply end_blk | apply end_seq_exit | apply end_seq_ret | apply end_blk_ret | apply run_skip | apply run_ret | apply run_exit | (apply run_region (by decide); (simp only [go_sem, argR, e1, e2, c58]; rfl)) | (refine run_cond_t ?_ ?_; · simp only [go_sem]) | (refine run_cond_f ?_ ?_; · simp only [go_sem]))
  refine run_loop (count_loop _ (H := H') (u := .slice a (sqs n).length c) (L := sqs n) ⟨a, c, rfl, hk⟩ hl (sqs n).length _ _ _ _ ⟨0, by omega, ?_, ?_, ?_, ?_, ⟨[], by simp⟩, rfl, rfl⟩) ?_
  · (simp only [go_sem]) <;> rfl
  · simp only [go_sem]
  · simp only [go_sem]
  · (simp only [go_sem]) <;> rfl
  rintro ex ρ' ms' h1 d1 ⟨rfl, k4, ⟨g, rfl⟩, rfl, rfl⟩
  repeat (first | apply run_seq | apply run_block | apply end_seq | apply end_blk_hit | apply end_blk_miss rfl | apply end_blk | apply end_seq_exit | apply end_seq_ret | apply end_blk_ret | apply run_skip | apply run_ret | apply run_exit | (apply run_region (by decide); (simp only [go_sem, k4]; rfl)) | (refine run_cond_t ?_ ?_; · simp only [go_sem]) | (refine run_cond_f ?_ ?_; · simp only [go_sem]))
  exact end_nil (q_ret2 _ _ (by simp only [go_sem]) (by simp only [go_sem]) rfl rfl (by rw [hg0, List.append_assoc]; exact take_app _ _))

theorem countR_loop (cx : Cx) {H : SHeap} {u : Value} {L : List (Int × Int)} (hu : PS H u L) (hL : L.length ≤ 1000002) (hpos : ∀ q ∈ L, 0 ≤ q.1 ∧ q.1 ≤ q.2) : ∀ k ρ ms h' d', (∃ i : Nat, i + k = L.length ∧ ρ 4 = .int .i64 (cnt (L.take i)) ∧ ρ 3 = u ∧ ρ 5 = .int .i64 i ∧ h' = H ∧ ms = [] ∧ d' = []) →
    LoopW M cx 6 sf21L0 ρ ms h' d' (fun ex ρ' ms' h' d' => ex = .exit 0 ∧ ρ' 4 = .int .i64 (cnt L) ∧ h' = H ∧ ms' = [] ∧ d' = []) := by
  obtain ⟨a, c, rfl, kp⟩ := hu
  refine loop_run _ ?_
  rintro k ρ ms h' d' ⟨i, hi, r4, r14, r16, rfl, rfl, rfl⟩
  unfold sf21L0
  by_cases hk : k = 0
  · have e1 : ¬ ((i : Int) < L.length) := by omega
    repeat (first | apply run_seq | apply run_block | apply end_seq | apply end_blk_hit | apply end_blk_miss rfl | apply end_blk | apply end_seq_exit | apply end_seq_ret | apply end_blk_ret | apply run_skip | apply run_ret | apply run_exit | (apply run_region (by decide); (simp only [go_sem, r14, r16, e1]; rfl)) | (refine run_cond_t ?_ ?_; · simp only [go_sem]) | (refine run_cond_f ?_ ?_; · simp only [go_sem]))
    refine end_nil ⟨rfl, ?_, rfl, rfl, rfl⟩
    rw [List.take_of_length_le (by omega)] at r4
    simp only [go_sem, r4]
  · have e1 : (i : Int) < L.length := by omega
    have e0 : (0 : Int) ≤ i := by omega
    have hil : i < L.length := by omega
    obtain ⟨b, o, rfl, hp⟩ := kp (by intro e; rw [e] at hil; simp at hil)
    have l1 := hp.load1 hil
    have l2 := hp.load2 hil
    have ew : IntKind.i64.wrap ((i : Int) + 1) = ((i + 1 : Nat) : Int) := by rw [wrap64 (by omega) (by omega)]; rfl
    have ht := cnt_take hil
    have hb := cnt_le (L.take i)
    have hbl : (L.take i).length ≤ L.length := by simp; omega
    obtain ⟨q1, q2⟩ := hpos _ (List.getElem_mem hil)
    generalize L[i] = p at *
    generalize cnt (L.take i) = C at *
    have w1 : IntKind.i64.wrap (C + 1) = C + 1 := wrap64 (by omega) (by omega)
    have w4 : IntKind.i64.wrap (C + 4) = C + 4 := wrap64 (by omega) (by omega)
    have w8 : IntKind.i64.wrap (C + 8) = C + 8 := wrap64 (by omega) (by omega)
    have v2 : IntKind.i64.wrap 2 = 2 := rfl
    have v4 : IntKind.i64.wrap 4 = 4 := rfl
    have v8 : IntKind.i64.wrap 8 = 8 := rfl
    by_cases c1 : p.2 = 0
    · have c2 : p.1 = 0 := by omega
      have hm : many p = 1 := by simp [many, c1]
      repeat (first | apply run_seq | apply run_block | apply end_seq | apply end_blk_hit | apply end_blk_miss rfl | apply end_blk | apply end_seq_exit | apply end_seq_ret | apply end_blk_ret | apply run_skip | apply run_ret | apply run_exit | (apply run_region (by decide); (simp only [go_sem, r4, r14, r16, e0, e1, l1, l2, c1, c2, w1, v2, v4, v8, ew, Int.toNat_natCast]; rfl)) | (refine run_cond_t ?_ ?_; · simp only [go_sem]) | (refine run_cond_f ?_ ?_; · simp only [go_sem]))
      refine end_nil ⟨k - 1, by omega, i + 1, by omega, ?_, ?_, ?_, rfl, rfl, rfl⟩
      · rw [ht, hm]; simp only [go_sem]
      · simp only [go_sem, r14]
      · simp only [go_sem, ew]
    · have c1' : 0 < p.2 := by omega
      by_cases c2 : p.1 = 0
      · have c3 : ¬ ((0 : Int) = p.2) := by omega
        have hm : many p = 4 := by simp [many, c1, c2]
        repeat (first | apply run_seq | apply run_block | apply end_seq | apply end_blk_hit | apply end_blk_miss rfl | apply end_blk | apply end_seq_exit | apply end_seq_ret | apply end_blk_ret | apply run_skip | apply run_ret | apply run_exit | (apply run_region (by decide); (simp only [go_sem, r4, r14, r16, e0, e1, l1, l2, c1', c2, c3, w4, v2, v4, v8, ew, Int.toNat_natCast]; rfl)) | (refine run_cond_t ?_ ?_; · simp only [go_sem]) | (refine run_cond_f ?_ ?_; · simp only [go_sem]))
        refine end_nil ⟨k - 1, by omega, i + 1, by omega, ?_, ?_, ?_, rfl, rfl, rfl⟩
        · rw [ht, hm]; simp only [go_sem]
        · simp only [go_sem, r14]
        · simp only [go_sem, ew]
      · have c2' : 0 < p.1 := by omega
        by_cases c3 : p.1 = p.2
        · have hm : many p = 4 := by simp [many, c1, c3]
          repeat (first | apply run_seq | apply run_block | apply end_seq | apply end_blk_hit | apply end_blk_miss rfl | apply end_blk | apply end_seq_exit | apply end_seq_ret | apply end_blk_ret | apply run_skip | apply run_ret | apply run_exit | (apply run_region (by decide); (simp only [go_sem, r4, r14, r16, e0, e1, l1, l2, c1', c2', c3, w4, v2, v4, v8, ew, Int.toNat_natCast]; rfl)) | (refine run_cond_t ?_ ?_; · simp only [go_sem]) | (refine run_cond_f ?_ ?_; · simp only [go_sem]))
          refine end_nil ⟨k - 1, by omega, i + 1, by omega, ?_, ?_, ?_, rfl, rfl, rfl⟩
          · rw [ht, hm]; simp only [go_sem]
          · simp only [go_sem, r14]
          · simp only [go_sem, ew]
        · have hm : many p = 8 := by simp [many, c1, c2, c3]
          repeat (first | apply run_seq | apply run_block | apply end_seq | apply end_blk_hit | apply end_blk_miss rfl | apply end_blk | apply end_seq_exit | apply end_seq_ret | apply end_blk_ret | apply run_skip | apply run_ret | apply run_exit | (apply run_region (by decide); (simp only [go_sem, r4, r14, r16, e0, e1, l1, l2, c1', c2', c3, w8, v2, v4, v8, ew, Int.toNat_natCast]; rfl)) | (refine run_cond_t ?_ ?_; · simp only [go_sem]) | (refine run_cond_f ?_ ?_; · simp only [go_sem]))
          refine end_nil ⟨k - 1, by omega, i + 1, by omega, ?_, ?_, ?_, rfl, rfl, rfl⟩
          · rw [ht, hm]; simp only [go_sem]
          · simp only [go_sem, r14]
          · simp only [go_sem, ew]
end Go.Proofs.YtdmfhdnpakgkpaaDoor.Sh

