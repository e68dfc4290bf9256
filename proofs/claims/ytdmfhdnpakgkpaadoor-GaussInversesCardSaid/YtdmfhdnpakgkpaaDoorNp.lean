/- Numbers: First of the document; Divides, the program's and the document's. -/
import Derived.Test.YtdmfhdnpakgkpaaDoorNo
set_option linter.all false
namespace Go.Proofs.YtdmfhdnpakgkpaaDoor.Sh
open Go
set_option maxRecDepth 100000

/-- how many turns back make a number the first of its associates -/
def turnsN (p : Int × Int) : Nat := if isF p then 0 else if isF (mulP p (0, -1)) then 1 else if isF (mulP p (-1, 0)) then 2 else 3
theorem turns_step {p : Int × Int} (h0 : p ≠ (0, 0)) (h : ¬ isF p) : turnsN (mulP p (0, -1)) < turnsN p := by
  have e1 : mulP (mulP p (0, -1)) (0, -1) = mulP p (-1, 0) := by unfold mulP; refine Prod.ext ?_ ?_ <;> dsimp only <;> grind
  have e2 : mulP (mulP p (0, -1)) (-1, 0) = mulP p (0, 1) := by unfold mulP; refine Prod.ext ?_ ?_ <;> dsimp only <;> grind
  unfold turnsN
  rw [if_neg h, e1, e2]
  by_cases c1 : isF (mulP p (0, -1))
  · rw [if_pos c1, if_pos c1]; decide
  · rw [if_neg c1, if_neg c1]
    by_cases c2 : isF (mulP p (-1, 0))
    · rw [if_pos c2, if_pos c2]; decide
    · rw [if_neg c2, if_neg c2]
      have c3 : isF (mulP p (0, 1)) := by
        rcases first_ex h0 with k | k | k | k
        · exact (h k).elim
        · exact k
        · exact (c2 k).elim
        · exact (c1 k).elim
      rw [if_pos c3]; decide
theorem turn_bd {p : Int × Int} {A : Int} (h : Bd A p) : Bd A (mulP p (0, -1)) := by
  obtain ⟨a, b, c, d⟩ := h
  rw [mul_mi]
  refine ⟨?_, ?_, ?_, ?_⟩ <;> dsimp only <;> omega
theorem turn_bd' {p : Int × Int} {A : Int} (h : Bd A p) : Bd A (mulP p (0, 1)) := by
  obtain ⟨a, b, c, d⟩ := h
  rw [mul_i]
  refine ⟨?_, ?_, ?_, ?_⟩ <;> dsimp only <;> omega
theorem turn_ne {p : Int × Int} (h : p ≠ (0, 0)) : mulP p (0, -1) ≠ (0, 0) := by
  rw [mul_mi]
  intro e
  have e1 : p.2 = 0 := congrArg Prod.fst e
  have e2 : -p.1 = 0 := congrArg Prod.snd e
  exact h (Prod.ext (by omega) e1)
theorem mul_turn (a u : Int × Int) : mulP (mulP a (0, 1)) u = mulP a (mulP u (0, 1)) := by
  unfold mulP; refine Prod.ext ?_ ?_ <;> dsimp only <;> grind
theorem one_mul (p : Int × Int) : mulP (1, 0) p = p := by unfold mulP; refine Prod.ext ?_ ?_ <;> dsimp only <;> omega

theorem firstR_loop (cx : Cx) {x0 : Int × Int} (H : SHeap) : ∀ k ρ ms h' d', (∃ x u : Int × Int, turnsN x = k ∧ x ≠ (0, 0) ∧ Bd 1000000000 x ∧ Bd 1 u ∧ (firP x0).1 = (firP x).1 ∧ (firP x0).2 = mulP (firP x).2 u ∧ ρ 1 = .pointer (some ⟨H.length, 0, none⟩) ∧ ρ 2 = .pointer (some ⟨H.length + 1, 0, none⟩) ∧ ρ 3 = .pointer (some ⟨H.length + 2, 0, none⟩) ∧ ρ 4 = .pointer (some ⟨H.length + 3, 0, none⟩) ∧ h' = H ++ [bx x, bz, bz, bx u] ∧ ms = [] ∧ d' = []) →
    LoopW M cx 5 sf43L0 ρ ms h' d' (fun ex ρ' ms' h' d' => ex = .exit 0 ∧ ms' = [] ∧ d' = [] ∧ h' = H ++ [bx (firP x0).1, bz, bz, bx (firP x0).2] ∧ ρ' 1 = .pointer (some ⟨H.length, 0, none⟩) ∧ ρ' 2 = .pointer (some ⟨H.length + 1, 0, none⟩) ∧ ρ' 3 = .pointer (some ⟨H.length + 2, 0, none⟩) ∧ ρ' 4 = .pointer (some ⟨H.length + 3, 0, none⟩)) := by
  refine loop_run _ ?_
  rintro k ρ ms h' d' ⟨x, u, hk, hx0, hx, hu, i1, i2, r1, r2, r3, r4, rfl, rfl, rfl⟩
  unfold sf43L0
  by_cases c : isF x
  · have e := firP_yes c
    rw [e] at i1 i2
    dsimp only at i1 i2
    rw [one_mul] at i2
    have c1 : ¬ x.1 ≤ 0 := by have := c.1; omega
    have c2 : ¬ x.2 < 0 := by have := c.2; omega
    repeat (first | apply run_seq | apply run_block | apply end_seq | apply end_blk_hit | apply end_blk_miss rfl | apply end_blk | apply end_seq_exit | apply end_seq_ret | apply end_blk_ret | apply run_skip | apply run_ret | apply run_exit | (apply run_region (by decide); (simp (maxSteps := 9999999) only [go_sem, r1, r2, r3, r4, c1, c2]; rfl)) | (apply run_regionN (by decide); (simp (maxSteps := 9999999) only [go_sem, r1, r2, r3, r4, c1, c2]; rfl)) | (refine run_cond_t ?_ ?_; · simp only [go_sem]) | (refine run_cond_f ?_ ?_; · simp only [go_sem]))
    refine end_nil ⟨rfl, rfl, rfl, by rw [i1, i2], ?_, ?_, ?_, ?_⟩
    · simp (maxSteps := 9999999) only [go_sem, r1]
    · simp (maxSteps := 9999999) only [go_sem, r2]
    · simp (maxSteps := 9999999) only [go_sem, r3]
    · simp (maxSteps := 9999999) only [go_sem, r4]
  · have m1 := fun h => mulR35 hx (show Bd 1 ((0 : Int), (-1 : Int)) by decide) (by decide) h
    have m2 := fun h => mulR35 hu (show Bd 1 ((0 : Int), (1 : Int)) by decide) (by decide) h
    dsimp only at m1 m2
    obtain ⟨t1, t2⟩ := isF_turn hx0 c
    have ts := turns_step hx0 c
    have fin : ∀ ρ' : Reg, ρ' 1 = .pointer (some ⟨H.length, 0, none⟩) → ρ' 2 = .pointer (some ⟨H.length + 1, 0, none⟩) → ρ' 3 = .pointer (some ⟨H.length + 2, 0, none⟩) → ρ' 4 = .pointer (some ⟨H.length + 3, 0, none⟩) →
        ∃ k', k' < k ∧ ∃ x' u' : Int × Int, turnsN x' = k' ∧ x' ≠ (0, 0) ∧ Bd 1000000000 x' ∧ Bd 1 u' ∧ (firP x0).1 = (firP x').1 ∧ (firP x0).2 = mulP (firP x').2 u' ∧ ρ' 1 = .pointer (some ⟨H.length, 0, none⟩) ∧ ρ' 2 = .pointer (some ⟨H.length + 1, 0, none⟩) ∧ ρ' 3 = .pointer (some ⟨H.length + 2, 0, none⟩) ∧ ρ' 4 = .pointer (some ⟨H.length + 3, 0, none⟩) ∧ H ++ [bx (mulP x (0, -1)), bz, bz, bx (mulP u (0, 1))] = H ++ [bx x', bz, bz, bx u'] ∧ ([] : List Nat) = [] ∧ ([] : List Nat) = [] :=
      fun ρ' a b c d => ⟨turnsN (mulP x (0, -1)), by omega, mulP x (0, -1), mulP u (0, 1), rfl, turn_ne hx0, turn_bd hx, turn_bd' hu, by rw [i1, t1], by rw [i2, t2, mul_turn], a, b, c, d, rfl, rfl, rfl⟩
    by_cases c1 : x.1 ≤ 0
    · repeat (first | apply run_seq | apply run_block | apply end_seq | apply end_blk_hit | apply end_blk_miss rfl | apply end_blk | apply end_seq_exit | apply end_seq_ret | apply end_blk_ret | apply run_skip | apply run_ret | apply run_exit | (apply run_region (by decide); (simp (maxSteps := 9999999) only [go_sem, r1, r2, r3, r4, c1, m1, m2]; rfl)) | (apply run_regionN (by decide); (simp (maxSteps := 9999999) only [go_sem, r1, r2, r3, r4, c1, m1, m2]; rfl)) | (refine run_cond_t ?_ ?_; · simp only [go_sem]) | (refine run_cond_f ?_ ?_; · simp only [go_sem]))
      refine end_nil (fin _ ?_ ?_ ?_ ?_)
      · simp (maxSteps := 9999999) only [go_sem, r1]
      · simp (maxSteps := 9999999) only [go_sem, r2]
      · simp (maxSteps := 9999999) only [go_sem, r3]
      · simp (maxSteps := 9999999) only [go_sem, r4]
    · have c2 : x.2 < 0 := by
        by_cases e : x.2 < 0
        · exact e
        · exact (c ⟨by omega, by omega⟩).elim
      repeat (first | apply run_seq | apply run_block | apply end_seq | apply end_blk_hit | apply end_blk_miss rfl | apply end_blk | apply end_seq_exit | apply end_seq_ret | apply end_blk_ret | apply run_skip | apply run_ret | apply run_exit | (apply run_region (by decide); (simp (maxSteps := 9999999) only [go_sem, r1, r2, r3, r4, c1, c2, m1, m2]; rfl)) | (apply run_regionN (by decide); (simp (maxSteps := 9999999) only [go_sem, r1, r2, r3, r4, c1, c2, m1, m2]; rfl)) | (refine run_cond_t ?_ ?_; · simp only [go_sem]) | (refine run_cond_f ?_ ?_; · simp only [go_sem]))
      refine end_nil (fin _ ?_ ?_ ?_ ?_)
      · simp (maxSteps := 9999999) only [go_sem, r1]
      · simp (maxSteps := 9999999) only [go_sem, r2]
      · simp (maxSteps := 9999999) only [go_sem, r3]
      · simp (maxSteps := 9999999) only [go_sem, r4]
theorem eqZ (p : Int × Int) : eqS (.agg [.int, .int]) (.agg #[.int .i64 p.1, .int .i64 p.2]) (.agg #[.int .i64 0, .int .i64 0]) = some (decide (p = (0, 0))) := eqP p (0, 0)
attribute [go_sem ↓ high] eqZ
/-- First of the document -/
theorem firstR43 {x : Int × Int} (hx : Bd 1000000000 x) (h : SHeap) : M.call 43 [agV x] h = some (.tuple #[agV (firP x).1, agV (firP x).2], h, []) := by
  refine call_run sf43 rfl rfl rfl ?_
  unfold sf43
  by_cases c : x = (0, 0)
  · subst c
    rw [firP_0]
    repeat (first | apply run_seq | apply run_block | apply end_seq | apply end_blk_hit | apply end_blk_miss rfl | apply end_blk | apply end_seq_exit | apply end_seq_ret | apply end_blk_ret | apply run_skip | apply run_ret | apply run_exit | (apply run_region (by decide); (simp (maxSteps := 9999999) only [go_sem, argR]; rfl)) | (apply run_regionN (by decide); (simp (maxSteps := 9999999) only [go_sem, argR]; rfl)) | (refine run_cond_t ?_ ?_; · simp only [go_sem]) | (refine run_cond_f ?_ ?_; · simp only [go_sem]))
    exact end_nil (q_free [agV (0, 0), agV (1, 0)] (by simp (maxSteps := 9999999) only [go_sem]) rfl rfl rfl (fun _ => rfl) (take_app _ _) rfl)
  · have e : (x = (0, 0)) = False := eq_false c
    repeat (first | apply run_seq | apply run_block | apply end_seq | apply end_blk_hit | apply end_blk_miss rfl | apply end_blk | apply end_seq_exit | apply end_seq_ret | apply end_blk_ret | apply run_skip | apply run_ret | apply run_exit | (apply run_region (by decide); (simp (maxSteps := 9999999) only [go_sem, argR, e]; rfl)) | (apply run_regionN (by decide); (simp (maxSteps := 9999999) only [go_sem, argR, e]; rfl)) | (refine run_cond_t ?_ ?_; · simp only [go_sem]) | (refine run_cond_f ?_ ?_; · simp only [go_sem]))
    refine run_loop (firstR_loop (x0 := x) _ h _ _ _ _ _ ⟨x, (1, 0), rfl, c, hx, by decide, rfl, by rw [mul_one], ?_, ?_, ?_, ?_, rfl, rfl, rfl⟩) ?_
    · simp (maxSteps := 9999999) only [go_sem]
    · simp (maxSteps := 9999999) only [go_sem]
    · simp (maxSteps := 9999999) only [go_sem]
    · simp (maxSteps := 9999999) only [go_sem]
    rintro ex ρ' ms' h1 d1 ⟨rfl, rfl, rfl, rfl, k1, k2, k3, k4⟩
    repeat (first | apply run_seq | apply run_block | apply end_seq | apply end_blk_hit | apply end_blk_miss rfl | apply end_blk | apply end_seq_exit | apply end_seq_ret | apply end_blk_ret | apply run_skip | apply run_ret | apply run_exit | (apply run_region (by decide); (simp (maxSteps := 9999999) only [go_sem, k1, k2, k3, k4]; rfl)) | (apply run_regionN (by decide); (simp (maxSteps := 9999999) only [go_sem, k1, k2, k3, k4]; rfl)) | (refine run_cond_t ?_ ?_; · simp only [go_sem]) | (refine run_cond_f ?_ ?_; · simp only [go_sem]))
    exact end_nil (q_free [agV (firP x).1, agV (firP x).2] (by simp (maxSteps := 9999999) only [go_sem, k2, k3]) rfl rfl rfl (fun _ => rfl) (take_app _ _) rfl)

/-- divides -/
def divP (x y : Int × Int) : Bool := if x = (0, 0) then decide (y = (0, 0)) else decide (restP y x = (0, 0))
theorem dividesR50 {x y : Int × Int} {X Y : Int} (hx : Bd X x) (hy : Bd Y y) (hXY : Y * X ≤ 1125899906842624) (hY : Y ≤ 1125899906842624) (hX : X * X ≤ 1125899906842624) (h : SHeap) :
    M.call 50 [agV x, agV y] h = some (.bool (divP x y), h, []) := by
  refine call_run sf50 rfl rfl rfl ?_
  unfold sf50
  by_cases c : x = (0, 0)
  · have ex : (x = (0, 0)) = True := eq_true c
    have : divP x y = decide (y = (0, 0)) := by unfold divP; rw [if_pos c]
    rw [this]
    repeat (first | apply run_seq | apply run_block | apply end_seq | apply end_blk_hit | apply end_blk_miss rfl | apply end_blk | apply end_seq_exit | apply end_seq_ret | apply end_blk_ret | apply run_skip | apply run_ret | apply run_exit | (apply run_region (by decide); (simp (maxSteps := 9999999) only [go_sem, argR, ex]; rfl)) | (apply run_regionN (by decide); (simp (maxSteps := 9999999) only [go_sem, argR, ex]; rfl)) | (refine run_cond_t ?_ ?_; · simp only [go_sem]) | (refine run_cond_f ?_ ?_; · simp only [go_sem]))
    exact end_nil (q_ret1 _ (by simp (maxSteps := 9999999) only [go_sem]) rfl (take_app _ _))
  · have ex : (x = (0, 0)) = False := eq_false c
    have : divP x y = decide (restP y x = (0, 0)) := by unfold divP; rw [if_neg c]
    rw [this]
    have c60 := fun h => quoR44 hy hx hXY hY hX c h
    repeat (first | apply run_seq | apply run_block | apply end_seq | apply end_blk_hit | apply end_blk_miss rfl | apply end_blk | apply end_seq_exit | apply end_seq_ret | apply end_blk_ret | apply run_skip | apply run_ret | apply run_exit | (apply run_region (by decide); (simp (maxSteps := 9999999) only [go_sem, argR, ex, c60]; rfl)) | (apply run_regionN (by decide); (simp (maxSteps := 9999999) only [go_sem, argR, ex, c60]; rfl)) | (refine run_cond_t ?_ ?_; · simp only [go_sem]) | (refine run_cond_f ?_ ?_; · simp only [go_sem]))
    exact end_nil (q_ret1 _ (by simp (maxSteps := 9999999) only [go_sem]) rfl (take_app _ _))
theorem rest56 {x y : Int × Int} {X Y : Int} (hx : Bd X x) (hy : Bd Y y) (hXY : X * Y ≤ 1125899906842624) (hX : X ≤ 1125899906842624) (hY : Y * Y ≤ 1125899906842624) (h0 : y ≠ (0, 0)) (h : SHeap) :
    M.call 56 [agV x, agV y] h = some (agV (restP x y), h, []) := by
  have c44 := fun h => quoR44 hx hy hXY hX hY h0 h
  refine call_run sf56 rfl rfl rfl ?_
  unfold sf56
  repeat (first | apply run_seq | apply run_block | apply end_seq | apply end_blk_hit | apply end_blk_miss rfl | apply end_blk | apply end_seq_exit | apply end_seq_ret | apply end_blk_ret | apply run_skip | apply run_ret | apply run_exit | (apply run_region (by decide); (simp (maxSteps := 9999999) only [go_sem, argR, c44]; rfl)) | (apply run_regionN (by decide); (simp (maxSteps := 9999999) only [go_sem, argR, c44]; rfl)) | (refine run_cond_t ?_ ?_; · simp only [go_sem]) | (refine run_cond_f ?_ ?_; · simp only [go_sem]))
  exact end_nil (q_free [agV (restP x y)] (by simp (maxSteps := 9999999) only [go_sem]) rfl rfl rfl (fun _ => rfl) (take_app _ _) rfl)
end Go.Proofs.YtdmfhdnpakgkpaaDoor.Sh

