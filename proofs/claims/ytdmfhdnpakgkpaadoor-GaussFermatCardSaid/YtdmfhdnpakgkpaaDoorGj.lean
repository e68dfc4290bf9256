/- CountSquares: the walk. -/
import Derived.Test.YtdmfhdnpakgkpaaDoorGi
set_option linter.all false
namespace Go.Proofs.YtdmfhdnpakgkpaaDoor.Sh
open Go
set_option maxRecDepth 100000

theorem count_loop (cx : Cx) {H : SHeap} {u : Value} {L : List (Int × Int)} (hu : PS H u L) (hL : L.length ≤ 1000002) : ∀ k ρ ms h' d', (∃ i : Nat, i + k = L.length ∧ ρ 4 = .int .i64 (cnt (L.take i)) ∧ ρ 14 = u ∧ ρ 15 = .int .i64 L.length ∧ ρ 16 = .int .i64 i ∧ (∃ g, h' = H ++ g) ∧ ms = [] ∧ d' = []) →
    LoopW M cx 6 sf18L0 ρ ms h' d' (fun ex ρ' ms' h' d' => ex = .exit 0 ∧ ρ' 4 = .int .i64 (cnt L) ∧ (∃ g, h' = H ++ g) ∧ ms' = [] ∧ d' = []) := by
  obtain ⟨a, c, rfl, kp⟩ := hu
  refine loop_run _ ?_
  rintro k ρ ms h' d' ⟨i, hi, r4, r14, r15, r16, ⟨g, rfl⟩, rfl, rfl⟩
  unfold sf18L0
  by_cases hk : k = 0
  · have e1 : ¬ ((i : Int) < L.length) := by omega
    repeat (first | apply run_seq | apply run_block | apply end_seq | apply end_blk_hit | apply end_blk_miss rfl | apply end_blk | apply end_seq_exit | apply end_seq_ret | apply end_blk_ret | apply run_skip | apply run_ret | apply run_exit | (apply run_region (by decide); (simp only [go_sem, r15, r16, e1]; rfl)) | (apply run_regionN (by decide); (simp only [go_sem, r15, r16, e1]; rfl)) | (refine run_cond_t ?_ ?_; · simp only [go_sem]) | (refine run_cond_f ?_ ?_; · simp only [go_sem]))
    refine end_nil ⟨rfl, ?_, ⟨g, rfl⟩, rfl, rfl⟩
    rw [List.take_of_length_le (by omega)] at r4
    simp only [go_sem, r4]
  · have e1 : (i : Int) < L.length := by omega
    have e0 : (0 : Int) ≤ i := by omega
    have hil : i < L.length := by omega
    obtain ⟨b, o, rfl, hp⟩ := kp (by intro e; rw [e] at hil; simp at hil)
    have l1 := (hp.app g).loadN hil
    have ew : IntKind.i64.wrap ((i : Int) + 1) = ((i + 1 : Nat) : Int) := by rw [wrap64 (by omega) (by omega)]; rfl
    have ht := cnt_take hil
    have hb := cnt_le (L.take i)
    have hbl : (L.take i).length ≤ L.length := by simp; omega
    generalize L[i] = p at *
    generalize cnt (L.take i) = C at *
    have w1 : IntKind.i64.wrap (C + 1) = C + 1 := wrap64 (by omega) (by omega)
    have w4 : IntKind.i64.wrap (C + 4) = C + 4 := wrap64 (by omega) (by omega)
    have w8 : IntKind.i64.wrap (C + 8) = C + 8 := wrap64 (by omega) (by omega)
    by_cases c1 : p.2 = 0
    · have hm : many p = 1 := by simp [many, c1]
      repeat (first | apply run_seq | apply run_block | apply end_seq | apply end_blk_hit | apply end_blk_miss rfl | apply end_blk | apply end_seq_exit | apply end_seq_ret | apply end_blk_ret | apply run_skip | apply run_ret | apply run_exit | (apply run_region (by decide); (simp only [go_sem, r4, r14, r15, r16, e0, e1, l1, c1, w1, ew, Int.toNat_natCast]; rfl)) | (apply run_regionN (by decide); (simp only [go_sem, r4, r14, r15, r16, e0, e1, l1, c1, w1, ew, Int.toNat_natCast]; rfl)) | (refine run_cond_t ?_ ?_; · simp only [go_sem]) | (refine run_cond_f ?_ ?_; · simp only [go_sem]))
      refine end_nil ⟨k - 1, by omega, i + 1, by omega, ?_, ?_, ?_, ?_, ⟨_, rfl⟩, rfl, rfl⟩
      · rw [ht, hm]; simp only [go_sem]
      · simp only [go_sem, r14]
      · simp only [go_sem, r15]
      · simp only [go_sem, ew]
    · by_cases c2 : p.1 = 0
      · have hm : many p = 4 := by simp [many, c1, c2]
        repeat (first | apply run_seq | apply run_block | apply end_seq | apply end_blk_hit | apply end_blk_miss rfl | apply end_blk | apply end_seq_exit | apply end_seq_ret | apply end_blk_ret | apply run_skip | apply run_ret | apply run_exit | (apply run_region (by decide); (simp only [go_sem, r4, r14, r15, r16, e0, e1, l1, c1, c2, w4, ew, Int.toNat_natCast]; rfl)) | (apply run_regionN (by decide); (simp only [go_sem, r4, r14, r15, r16, e0, e1, l1, c1, c2, w4, ew, Int.toNat_natCast]; rfl)) | (refine run_cond_t ?_ ?_; · simp only [go_sem]) | (refine run_cond_f ?_ ?_; · simp only [go_sem]))
        refine end_nil ⟨k - 1, by omega, i + 1, by omega, ?_, ?_, ?_, ?_, ⟨_, rfl⟩, rfl, rfl⟩
        · rw [ht, hm]; simp only [go_sem]
        · simp only [go_sem, r14]
        · simp only [go_sem, r15]
        · simp only [go_sem, ew]
      · by_cases c3 : p.1 = p.2
        · have hm : many p = 4 := by simp [many, c1, c3]
          repeat (first | apply run_seq | apply run_block | apply end_seq | apply end_blk_hit | apply end_blk_miss rfl | apply end_blk | apply end_seq_exit | apply end_seq_ret | apply end_blk_ret | apply run_skip | apply run_ret | apply run_exit | (apply run_region (by decide); (simp only [go_sem, r4, r14, r15, r16, e0, e1, l1, c1, c2, c3, w4, ew, Int.toNat_natCast]; rfl)) | (apply run_regionN (by decide); (simp only [go_sem, r4, r14, r15, r16, e0, e1, l1, c1, c2, c3, w4, ew, Int.toNat_natCast]; rfl)) | (refine run_cond_t ?_ ?_; · simp only [go_sem]) | (refine run_cond_f ?_ ?_; · simp only [go_sem]))
          refine end_nil ⟨k - 1, by omega, i + 1, by omega, ?_, ?_, ?_, ?_, ⟨_, rfl⟩, rfl, rfl⟩
          · rw [ht, hm]; simp only [go_sem]
          · simp only [go_sem, r14]
          · simp only [go_sem, r15]
          · simp only [go_sem, ew]
        · have hm : many p = 8 := by simp [many, c1, c2, c3]
          repeat (first | apply run_seq | apply run_block | apply end_seq | apply end_blk_hit | apply end_blk_miss rfl | apply end_blk | apply end_seq_exit | apply end_seq_ret | apply end_blk_ret | apply run_skip | apply run_ret | apply run_exit | (apply run_region (by decide); (simp only [go_sem, r4, r14, r15, r16, e0, e1, l1, c1, c2, c3, w8, ew, Int.toNat_natCast]; rfl)) | (apply run_regionN (by decide); (simp only [go_sem, r4, r14, r15, r16, e0, e1, l1, c1, c2, c3, w8, ew, Int.toNat_natCast]; rfl)) | (refine run_cond_t ?_ ?_; · simp only [go_sem]) | (refine run_cond_f ?_ ?_; · simp only [go_sem]))
          refine end_nil ⟨k - 1, by omega, i + 1, by omega, ?_, ?_, ?_, ?_, ⟨_, rfl⟩, rfl, rfl⟩
          · rw [ht, hm]; simp only [go_sem]
          · simp only [go_sem, r14]
          · simp only [go_sem, r15]
          · simp only [go_sem, ew]
end Go.Proofs.YtdmfhdnpakgkpaaDoor.Sh

