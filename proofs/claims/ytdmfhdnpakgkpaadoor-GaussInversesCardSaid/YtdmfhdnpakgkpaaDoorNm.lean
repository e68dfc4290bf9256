/- Numbers of the chapter: the units in turn, and the first of the associates. -/
import Derived.Test.YtdmfhdnpakgkpaaDoorNl
set_option linter.all false
namespace Go.Proofs.YtdmfhdnpakgkpaaDoor.Sh
open Go
set_option maxRecDepth 100000

theorem unit_bd (k : Nat) : Bd 1 (unitK k) := by
  match k with
  | 0 => decide
  | 1 => decide
  | 2 => decide
  | k + 3 => exact (by decide : Bd 1 ((0 : Int), (-1 : Int)))
theorem unit_next {k : Nat} (hk : k < 4) : mulP (unitK k) (0, 1) = if k = 3 then (1, 0) else unitK (k + 1) := by
  match k, hk with
  | 0, _ => decide
  | 1, _ => decide
  | 2, _ => decide
  | 3, _ => decide
theorem unit_ne {k : Nat} (hk : k < 3) : ¬ ((unitK (k + 1)).1 = 1) := by
  match k, hk with
  | 0, _ => decide
  | 1, _ => decide
  | 2, _ => decide
/-- the unit that is found -/
theorem firstU_at {p : Int × Int} {k : Nat} (hk : k < 4) (h : isF (mulP p (unitK k))) (hno : ∀ i, i < k → ¬ isF (mulP p (unitK i))) : firstU p = unitK k := by
  unfold firstU
  have a0 : 0 < k → ¬ isF p := fun e => by
    have := hno 0 e
    rwa [show unitK 0 = (1, 0) from rfl, mul_one] at this
  have a1 : 1 < k → ¬ isF (mulP p (0, 1)) := fun e => hno 1 e
  have a2 : 2 < k → ¬ isF (mulP p (-1, 0)) := fun e => hno 2 e
  match k, hk with
  | 0, _ =>
    rw [show unitK 0 = (1, 0) from rfl, mul_one] at h
    rw [if_pos h]; rfl
  | 1, _ => rw [if_neg (a0 (by omega)), if_pos (show isF (mulP p (0, 1)) from h)]; rfl
  | 2, _ => rw [if_neg (a0 (by omega)), if_neg (a1 (by omega)), if_pos (show isF (mulP p (-1, 0)) from h)]; rfl
  | 3, _ => rw [if_neg (a0 (by omega)), if_neg (a1 (by omega)), if_neg (a2 (by omega)), if_pos (show isF (mulP p (0, -1)) from h)]; rfl
theorem firstU_no {p : Int × Int} (hno : ∀ i, i < 4 → ¬ isF (mulP p (unitK i))) : firstU p = (1, 0) := by
  unfold firstU
  have n0 := hno 0 (by omega)
  rw [show unitK 0 = (1, 0) from rfl, mul_one] at n0
  rw [if_neg n0, if_neg (show ¬ isF (mulP p (0, 1)) from hno 1 (by omega)), if_neg (show ¬ isF (mulP p (-1, 0)) from hno 2 (by omega)), if_neg (show ¬ isF (mulP p (0, -1)) from hno 3 (by omega))]

theorem units_loop (cx : Cx) {n : Nat} {x : Int × Int} {t : T} {H : SHeap} (hx : Bd 1000000000 x) (hf : Full 5 t) (t1 : t.get 1 = .pointer (some ⟨n, 0, none⟩)) (t2 : t.get 2 = .pointer (some ⟨n + 1, 0, none⟩)) (t3 : t.get 3 = .pointer (some ⟨n + 2, 0, none⟩)) :
    ∀ m ρ ms h' d', (∃ k c : Nat, k + m = 4 ∧ 1 ≤ m ∧ ρ 0 = .func (.yield (n + 4)) #[] #[] ∧ ρ 2 = .pointer (some ⟨c, 0, none⟩) ∧ n + 5 ≤ c ∧ h'[c]? = some (.cells [.int .i64 (unitK k).1, .int .i64 (unitK k).2] 68 true 0 []) ∧ JF n x t H h' ∧ (∀ i, i < k → ¬ isF (mulP x (unitK i))) ∧ ms = [] ∧ d' = []) →
    LoopW M cx 4 sf109L0 ρ ms h' d' (fun ex ρ' ms' h' d' => ms' = [] ∧ d' = [] ∧ ((ex = .exit 0 ∧ JG n x (firstU x) t H h') ∨ (ex = .ret ∧ firstU x = (1, 0) ∧ (∀ i, i < 4 → ¬ isF (mulP x (unitK i))) ∧ JF n x t H h'))) := by
  refine loop_run _ ?_
  rintro m ρ ms h' d' ⟨k, c, hk, hm, r0, r2, hc, hcell, J, hno, rfl, rfl⟩
  have jl := J.len
  have hcl : c < h'.length := (List.getElem?_eq_some_iff.1 hcell).1
  have b1 : loadS h' (some 2) (.pointer (some ⟨c, 0, none⟩)) = some (.agg #[.int .i64 (unitK k).1, .int .i64 (unitK k).2]) := by rw [load_rdON, hcell]; rfl
  obtain ⟨hh', y1, y2⟩ := first_round (base := cx.base) hx (unit_bd k) hf t1 t2 t3 J
  unfold sf109L0
  by_cases hF : isF (mulP x (unitK k))
  · obtain ⟨e, G⟩ := y1 hF
    repeat (first | apply run_seq | apply run_block | apply end_seq | apply end_blk_hit | apply end_blk_miss rfl | apply end_blk | apply end_seq_exit | apply end_seq_ret | apply end_blk_ret | apply run_skip | apply run_ret | apply run_exit | (apply run_region (by decide); (simp (maxSteps := 9999999) only [go_sem, r0, r2, b1, e]; rfl)) | (apply run_regionN (by decide); (simp (maxSteps := 9999999) only [go_sem, r0, r2, b1, e]; rfl)) | (refine run_cond_t ?_ ?_; · simp only [go_sem]) | (refine run_cond_f ?_ ?_; · simp only [go_sem]))
    refine end_nil ⟨rfl, rfl, .inl ⟨rfl, ?_⟩⟩
    rw [firstU_at (by omega) hF hno]
    exact G
  · obtain ⟨e, e1, e2⟩ := y2 hF
    have b2 : loadS hh' (some 2) (.pointer (some ⟨c, 0, none⟩)) = some (.agg #[.int .i64 (unitK k).1, .int .i64 (unitK k).2]) := by rw [load_rdON, e2 c hcl, hcell]; rfl
    have c65 := fun h => times65 (unit_bd k) (show Bd 1 ((0 : Int), (1 : Int)) by decide) (by decide) h
    have b3 : hh'[c]? = some (.cells [.int .i64 (unitK k).1, .int .i64 (unitK k).2] 68 true 0 []) := by rw [e2 c hcl, hcell]
    have un := unit_next (k := k) (by omega)
    have hno' : ∀ i, i < k + 1 → ¬ isF (mulP x (unitK i)) := fun i hi => by
      by_cases e : i = k
      · subst e; exact hF
      · exact hno i (by omega)
    have b4 : ∀ v, loadS (hh'.set c (.cells v 68 true 0 [])) (some 2) (.pointer (some ⟨c, 0, none⟩)) = rdON (some (.cells v 68 true 0 [])) 0 2 := fun v => by rw [load_rdON, List.getElem?_set_self (by omega)]
    have JK : ∀ v g, JF n x t H (hh'.set c (.cells v 68 true 0 []) ++ g) := fun v g => by
      have key : ∀ j, j < n + 5 → (hh'.set c (.cells v 68 true 0 []) ++ g)[j]? = h'[j]? := fun j hj => by
        rw [List.getElem?_append_left (by simp; omega), List.getElem?_set_ne (by omega), e2 j (by omega)]
      exact ⟨by simp; omega, fun j hj => by rw [key j (by omega)]; exact J.low j hj, by rw [key _ (by omega)]; exact J.c0, by rw [key _ (by omega)]; exact J.c1, by rw [key _ (by omega)]; exact J.c2, by rw [key _ (by omega)]; exact J.df, by rw [key _ (by omega)]; exact J.lp⟩
    by_cases h3 : k = 3
    · rw [if_pos h3] at un
      dsimp only at c65
      rw [un] at c65
      repeat (first | apply run_seq | apply run_block | apply end_seq | apply end_blk_hit | apply end_blk_miss rfl | apply end_blk | apply end_seq_exit | apply end_seq_ret | apply end_blk_ret | apply run_skip | apply run_ret | apply run_exit | (apply run_region (by decide); (simp (maxSteps := 9999999) only [go_sem, r0, r2, b1, e, b2, c65, b3, b4]; rfl)) | (apply run_regionN (by decide); (simp (maxSteps := 9999999) only [go_sem, r0, r2, b1, e, b2, c65, b3, b4]; rfl)) | (refine run_cond_t ?_ ?_; · simp only [go_sem]) | (refine run_cond_f ?_ ?_; · simp only [go_sem]))
      refine end_nil ⟨rfl, rfl, .inr ⟨rfl, firstU_no (fun i hi => hno' i (by omega)), fun i hi => hno' i (by omega), ?_⟩⟩
      have := JK [.int .i64 1, .int .i64 0] []
      rw [List.append_nil] at this
      exact this
    · rw [if_neg h3] at un
      dsimp only at c65
      rw [un] at c65
      have u1 := unit_ne (k := k) (by omega)
      repeat (first | apply run_seq | apply run_block | apply end_seq | apply end_blk_hit | apply end_blk_miss rfl | apply end_blk | apply end_seq_exit | apply end_seq_ret | apply end_blk_ret | apply run_skip | apply run_ret | apply run_exit | (apply run_region (by decide); (simp (maxSteps := 9999999) only [go_sem, r0, r2, b1, e, b2, c65, b3, b4, u1]; rfl)) | (apply run_regionN (by decide); (simp (maxSteps := 9999999) only [go_sem, r0, r2, b1, e, b2, c65, b3, b4, u1]; rfl)) | (refine run_cond_t ?_ ?_; · simp only [go_sem]) | (refine run_cond_f ?_ ?_; · simp only [go_sem]))
      refine end_nil ⟨m - 1, by omega, k + 1, _, by omega, by omega, ?_, by simp (maxSteps := 9999999) only [go_sem]; rfl, ?_, ?_, JK _ _, hno', rfl, rfl⟩
      · simp (maxSteps := 9999999) only [go_sem, r0]
      · simp; omega
      · simp
end Go.Proofs.YtdmfhdnpakgkpaaDoor.Sh

