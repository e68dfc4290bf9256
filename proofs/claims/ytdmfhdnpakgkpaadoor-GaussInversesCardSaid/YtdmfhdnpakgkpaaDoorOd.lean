/- The greatest common divisor: the program's and the document's. -/
import Derived.Test.YtdmfhdnpakgkpaaDoorOa
import Derived.Test.YtdmfhdnpakgkpaaDoorNq
set_option linter.all false
namespace Go.Proofs.YtdmfhdnpakgkpaaDoor.Sh
open Go
set_option maxRecDepth 100000
set_option maxHeartbeats 4000000

abbrev bn (p : Int × Int) : SO := .cells [.int .i64 p.1, .int .i64 p.2] 68 true 0 []
abbrev bnz : SO := .cells [.int .i64 0, .int .i64 0] 68 true 0 []
theorem eu_bd : ∀ {x y : Int × Int}, Bd 30000 x → Bd 30000 y → Bd 30000 (eu x y) := by
  have key : ∀ (n : Nat) (x y : Int × Int), (nrm y).toNat = n → Bd 30000 x → Bd 30000 y → Bd 30000 (eu x y) := by
    intro n
    induction n using Nat.strongRecOn with
    | _ n ih =>
      intro x y hn hx hy
      by_cases c : y = (0, 0)
      · subst c; rw [eu_0]; exact hx
      · rw [eu_s c]
        have hn := nrm_pos c
        have rn := rest_nrm (x := x) hn
        have r0 := nrm_nonneg (restP x y)
        exact ih _ (by omega) _ _ rfl hy (rest_bd hn hy)
  intro x y hx hy
  exact key _ x y rfl hx hy
theorem gcdR_loop (cx : Cx) (H : SHeap) (z : Int × Int) : ∀ k ρ ms h' d', (∃ (x y : Int × Int) (g : SHeap), (nrm y).toNat = k ∧ Bd 30000 x ∧ Bd 30000 y ∧ eu x y = z ∧ ρ 2 = .pointer (some ⟨H.length, 0, none⟩) ∧ ρ 3 = .pointer (some ⟨H.length + 1, 0, none⟩) ∧ ρ 4 = .pointer (some ⟨H.length + 2, 0, none⟩) ∧ h' = H ++ (bx x :: bx y :: bz :: g) ∧ ms = [] ∧ d' = []) →
    LoopW M cx 5 sf49L0 ρ ms h' d' (fun ex ρ' ms' h' d' => ex = .exit 0 ∧ ms' = [] ∧ d' = [] ∧ ρ' 2 = .pointer (some ⟨H.length, 0, none⟩) ∧ ρ' 4 = .pointer (some ⟨H.length + 2, 0, none⟩) ∧ ∃ g, h' = H ++ (bx z :: bz :: bz :: g)) := by
  refine loop_run _ ?_
  rintro k ρ ms h' d' ⟨x, y, g, hk, hx, hy, hz, r2, r3, r4, rfl, rfl, rfl⟩
  unfold sf49L0
  by_cases c : y = (0, 0)
  · subst c
    rw [eu_0] at hz
    subst hz
    repeat (first | apply run_seq | apply run_block | apply end_seq | apply end_blk_hit | apply end_blk_miss rfl | apply end_blk | apply end_seq_exit | apply end_seq_ret | apply end_blk_ret | apply run_skip | apply run_ret | apply run_exit | (apply run_region (by decide); (simp (maxSteps := 9999999) only [go_sem, r2, r3, r4]; rfl)) | (apply run_regionN (by decide); (simp (maxSteps := 9999999) only [go_sem, r2, r3, r4]; rfl)) | (refine run_cond_t ?_ ?_; · simp only [go_sem]) | (refine run_cond_f ?_ ?_; · simp only [go_sem]))
    refine end_nil ⟨rfl, rfl, rfl, ?_, ?_, g, rfl⟩
    · simp (maxSteps := 9999999) only [go_sem, r2]
    · simp (maxSteps := 9999999) only [go_sem, r4]
  · have c' : (y = (0, 0)) = False := eq_false c
    have c44 := fun h => quoR44 hx hy (by decide) (by decide) (by decide) c h
    have hn := nrm_pos c
    have rn := rest_nrm (x := x) hn
    have r0 := nrm_nonneg (restP x y)
    repeat (first | apply run_seq | apply run_block | apply end_seq | apply end_blk_hit | apply end_blk_miss rfl | apply end_blk | apply end_seq_exit | apply end_seq_ret | apply end_blk_ret | apply run_skip | apply run_ret | apply run_exit | (apply run_region (by decide); (simp (maxSteps := 9999999) only [go_sem, r2, r3, r4, c', c44]; rfl)) | (apply run_regionN (by decide); (simp (maxSteps := 9999999) only [go_sem, r2, r3, r4, c', c44]; rfl)) | (refine run_cond_t ?_ ?_; · simp only [go_sem]) | (refine run_cond_f ?_ ?_; · simp only [go_sem]))
    refine end_nil ⟨(nrm (restP x y)).toNat, by omega, y, restP x y, _, rfl, hy, rest_bd hn hy, by rw [← hz, eu_s c], ?_, ?_, ?_, rfl, rfl, rfl⟩
    · simp (maxSteps := 9999999) only [go_sem, r2]
    · simp (maxSteps := 9999999) only [go_sem, r3]
    · simp (maxSteps := 9999999) only [go_sem, r4]
theorem gcdR49 {x y : Int × Int} (hx : Bd 30000 x) (hy : Bd 30000 y) (h : SHeap) : M.call 49 [agV x, agV y] h = some (agV (gcdP x y), h, []) := by
  have c43 := fun h => firstR43 (x := eu x y) ((eu_bd hx hy).mono (by decide)) h
  refine call_run sf49 rfl rfl rfl ?_
  unfold sf49
  repeat (first | apply run_seq | apply run_block | apply end_seq | apply end_blk_hit | apply end_blk_miss rfl | apply end_blk | apply end_seq_exit | apply end_seq_ret | apply end_blk_ret | apply run_skip | apply run_ret | apply run_exit | (apply run_region (by decide); (simp (maxSteps := 9999999) only [go_sem, argR]; rfl)) | (apply run_regionN (by decide); (simp (maxSteps := 9999999) only [go_sem, argR]; rfl)) | (refine run_cond_t ?_ ?_; · simp only [go_sem]) | (refine run_cond_f ?_ ?_; · simp only [go_sem]))
  refine run_loop (gcdR_loop _ h (eu x y) _ _ _ _ _ ⟨x, y, [], rfl, hx, hy, rfl, ?_, ?_, ?_, rfl, rfl, rfl⟩) ?_
  · simp (maxSteps := 9999999) only [go_sem, argR]
  · simp (maxSteps := 9999999) only [go_sem]
  · simp (maxSteps := 9999999) only [go_sem]
  rintro ex ρ' ms' h1 d1 ⟨rfl, rfl, rfl, k2, k4, g, rfl⟩
  repeat (first | apply run_seq | apply run_block | apply end_seq | apply end_blk_hit | apply end_blk_miss rfl | apply end_blk | apply end_seq_exit | apply end_seq_ret | apply end_blk_ret | apply run_skip | apply run_ret | apply run_exit | (apply run_region (by decide); (simp (maxSteps := 9999999) only [go_sem, k2, k4, c43]; rfl)) | (apply run_regionN (by decide); (simp (maxSteps := 9999999) only [go_sem, k2, k4, c43]; rfl)) | (refine run_cond_t ?_ ?_; · simp only [go_sem]) | (refine run_cond_f ?_ ?_; · simp only [go_sem]))
  exact end_nil (q_free [agV (gcdP x y)] (by simp (maxSteps := 9999999) only [go_sem, k4]; rfl) rfl rfl rfl (fun _ => rfl) (take_app _ _) rfl)
end Go.Proofs.YtdmfhdnpakgkpaaDoor.Sh

