/- Bezout in all cases; GaussGcds: the law. -/
import Derived.Test.YtdmfhdnpakgkpaaDoorOe
set_option linter.all false
namespace Go.Proofs.YtdmfhdnpakgkpaaDoor.Sh
open Go
set_option maxRecDepth 100000
set_option maxHeartbeats 4000000

theorem bezout48_0 {a : Int × Int} (ha : Bd 30000 a) (h : SHeap) : ∃ u v, BR a (0, 0) u v ∧ M.call 48 [agV a, agV (0, 0)] h = some (.tuple #[agV (gcdP a (0, 0)), agV u, agV v, .int .i64 0], h, []) := by
  have c64 := open2 a (0, 0) h [bx a, bz, bz, bz, bz, bs a (0, 0)] 5 rfl
  rw [if_pos ⟨ha, by decide⟩] at c64
  have c73 := fun h => first73 (x := a) (ha.mono (by decide)) h
  have eg : gcdP a (0, 0) = (firP a).1 := by unfold gcdP; rw [eu_0]
  rw [eg]
  by_cases z : a = (0, 0)
  · subst z
    have e0 : (firP (0, 0)).1 = (0, 0) := by decide
    refine ⟨(0, 0), (0, 0), ⟨by rw [eg]; decide, by decide, by decide⟩, ?_⟩
    have c73' : ∀ h, M.call 73 [.agg #[.int .i64 0, .int .i64 0]] h = some (.tuple #[.agg #[.int .i64 0, .int .i64 0], .agg #[.int .i64 1, .int .i64 0]], h, []) := fun h => by
      have := c73 h
      rw [firP_0] at this
      exact this
    refine call_run sf48 rfl rfl rfl ?_
    unfold sf48
    repeat (first | apply run_seq | apply run_block | apply end_seq | apply end_blk_hit | apply end_blk_miss rfl | apply end_blk | apply end_seq_exit | apply end_seq_ret | apply end_blk_ret | apply run_skip | apply run_ret | apply run_exit | (apply run_region (by decide); (simp (maxSteps := 9999999) only [go_sem, argR, c64, c73', Nat.add_assoc]; rfl)) | (apply run_regionN (by decide); (simp (maxSteps := 9999999) only [go_sem, argR, c64, c73', Nat.add_assoc]; rfl)) | (refine run_cond_t ?_ ?_; · simp only [go_sem]) | (refine run_cond_f ?_ ?_; · simp only [go_sem]))
    exact end_nil (q_free [agV (0, 0), agV (0, 0), agV (0, 0), .int .i64 0] (by simp (maxSteps := 9999999) only [go_sem]) rfl rfl rfl (fun _ => rfl) (take_app _ _) rfl)
  · have z' : ((firP a).1 = (0, 0)) = False := eq_false (fir_ne z)
    have bfu : Bd 1 (firP a).2 := by
      have := firU_bd a
      unfold firP Bd conjP at *; dsimp only at *; omega
    have c78 := fun h => turned78 bfu (by decide) h
    have ecj : conjP (firP a).2 = firstU a := conj_conj _
    rw [ecj] at c78
    refine ⟨firstU a, (0, 0), ⟨by rw [eg, fir_mul, zero_mul', mul_comm']; unfold addP; refine Prod.ext ?_ ?_ <;> dsimp only <;> omega, (firU_bd a).mono (by decide), by decide⟩, ?_⟩
    refine call_run sf48 rfl rfl rfl ?_
    unfold sf48
    repeat (first | apply run_seq | apply run_block | apply end_seq | apply end_blk_hit | apply end_blk_miss rfl | apply end_blk | apply end_seq_exit | apply end_seq_ret | apply end_blk_ret | apply run_skip | apply run_ret | apply run_exit | (apply run_region (by decide); (simp (maxSteps := 9999999) only [go_sem, argR, c64, c73, z', c78, Nat.add_assoc]; rfl)) | (apply run_regionN (by decide); (simp (maxSteps := 9999999) only [go_sem, argR, c64, c73, z', c78, Nat.add_assoc]; rfl)) | (refine run_cond_t ?_ ?_; · simp only [go_sem]) | (refine run_cond_f ?_ ?_; · simp only [go_sem]))
    exact end_nil (q_free [agV (firP a).1, agV (firstU a), agV (0, 0), .int .i64 0] (by simp (maxSteps := 9999999) only [go_sem]) rfl rfl rfl (fun _ => rfl) (take_app _ _) rfl)
/-- Bezout -/
theorem bezout {a b : Int × Int} (ha : Bd 30000 a) (hb : Bd 30000 b) (h : SHeap) : ∃ u v, BR a b u v ∧ M.call 48 [agV a, agV b] h = some (.tuple #[agV (gcdP a b), agV u, agV v, .int .i64 0], h, []) := by
  by_cases z : b = (0, 0)
  · subst z; exact bezout48_0 ha h
  · exact bezout48 ha hb z h
/-- the answer does not hang on the heap -/
theorem bezoutAt {a b : Int × Int} (ha : Bd 30000 a) (hb : Bd 30000 b) : ∃ F : SHeap → (Int × Int) × (Int × Int), ∀ h, BR a b (F h).1 (F h).2 ∧ M.call 48 [agV a, agV b] h = some (.tuple #[agV (gcdP a b), agV (F h).1, agV (F h).2, .int .i64 0], h, []) := by
  refine ⟨fun h => (Classical.choose (bezout ha hb h), Classical.choose (Classical.choose_spec (bezout ha hb h))), fun h => ?_⟩
  exact Classical.choose_spec (Classical.choose_spec (bezout ha hb h))

theorem gcds_loop (cx : Cx) (H : SHeap) (w : Int × Int) : ∀ k ρ ms h' d', (∃ (r : Nat) (x y : Int × Int) (g : SHeap), r + k = 2 ∧ ρ 3 = .pointer (some ⟨H.length, 0, none⟩) ∧ ρ 4 = .pointer (some ⟨H.length + 1, 0, none⟩) ∧ ρ 5 = .pointer (some ⟨H.length + 2, 0, none⟩) ∧ ρ 7 = .int .i64 r ∧ ms = [] ∧ h' = H ++ (bx x :: bx y :: bx w :: g) ∧ d' = []) →
    LoopW M cx 7 sf12L0 ρ ms h' d' (fun ex ρ' ms' h' d' => ex = .exit 0 ∧ ms' = [] ∧ (∃ g, h' = H ++ g) ∧ d' = []) := by
  refine loop_run _ ?_
  rintro k ρ ms h' d' ⟨r, x, y, g, hr, r3, r4, r5, r7, rfl, rfl, rfl⟩
  unfold sf12L0
  by_cases hk : k = 0
  · have e1 : ¬ ((r : Int) < 2) := by omega
    repeat (first | apply run_seq | apply run_block | apply end_seq | apply end_blk_hit | apply end_blk_miss rfl | apply end_blk | apply end_seq_exit | apply end_seq_ret | apply end_blk_ret | apply run_skip | apply run_ret | apply run_exit | (apply run_region (by decide); (simp (maxSteps := 9999999) only [go_sem, r7, e1]; rfl)) | (apply run_regionN (by decide); (simp (maxSteps := 9999999) only [go_sem, r7, e1]; rfl)) | (refine run_cond_t ?_ ?_; · simp only [go_sem]) | (refine run_cond_f ?_ ?_; · simp only [go_sem]))
    exact end_nil ⟨rfl, rfl, ⟨_, rfl⟩, rfl⟩
  · have e1 : (r : Int) < 2 := by omega
    have ew : IntKind.i64.wrap ((r : Int) + 1) = ((r + 1 : Nat) : Int) := by rw [wrap64 (by omega) (by omega)]; rfl
    have tx := fun h => tame29 x (m := 30000) (by decide) (by decide) h
    have ty := fun h => tame29 y (m := 30000) (by decide) (by decide) h
    have bX := tame_bd x (m := 30000) (by decide)
    have bY := tame_bd y (m := 30000) (by decide)
    generalize tameP x 30000 = a at *
    generalize tameP y 30000 = b at *
    have c39 := fun h => divides39 bX bY h
    have c38 := fun h => gcd38 bX bY h
    obtain ⟨F, hF⟩ := bezoutAt bX bY
    have c49 := fun h => gcdR49 bX bY h
    have c50 := fun h => dividesR50 bX bY (by decide) (by decide) (by decide) h
    have c30 := fun h => some30 w (m := 100) (by decide) (by decide) h
    have bs := some_bd w (m := 100) (by decide)
    have ta := fun h => tame29 a (m := 100) (by decide) (by decide) h
    have tb := fun h => tame29 b (m := 100) (by decide) (by decide) h
    have ma := fun h => mulR35 bs (tame_bd a (m := 100) (by decide)) (by decide) h
    have mb := fun h => mulR35 bs (tame_bd b (m := 100) (by decide)) (by decide) h
    obtain ⟨⟨u, v⟩, e, hB⟩ : ∃ uv : (Int × Int) × (Int × Int), F (H ++ (bx a :: bx b :: bx w :: (g ++ [bx (gcdP a b)]))) = uv ∧ BR a b uv.1 uv.2 := ⟨_, rfl, (hF _).1⟩
    have c48 := (hF (H ++ (bx a :: bx b :: bx w :: (g ++ [bx (gcdP a b)])))).2
    rw [e] at c48
    dsimp only at c48 hB
    have v26 := fun h => validR26 u h
    have v26' := fun h => validR26 v h
    rw [decide_eq_true hB.bu] at v26
    rw [decide_eq_true hB.bv] at v26'
    have m1 := fun h => mulR35 hB.bu bX (by decide) h
    have m2 := fun h => mulR35 hB.bv bY (by decide) h
    have ad := fun h => addR34 (mulP_bd hB.bu bX) (mulP_bd hB.bv bY) (by decide) h
    rw [hB.made] at ad
    have db : ∀ t : Bool, (t == t) = true := fun t => by cases t <;> rfl
    repeat (first | apply run_seq | apply run_block | apply end_seq | apply end_blk_hit | apply end_blk_miss rfl | apply end_blk | apply end_seq_exit | apply end_seq_ret | apply end_blk_ret | apply run_skip | apply run_ret | apply run_exit | (apply run_region (by decide); (simp (maxSteps := 9999999) only [go_sem, r3, r4, r5, r7, e1, tx, ty, c39, c38, c48, c49, c50, v26, v26', m1, m2, ad, db, c30, ta, tb, ma, mb, ew]; rfl)) | (apply run_regionN (by decide); (simp (maxSteps := 9999999) only [go_sem, r3, r4, r5, r7, e1, tx, ty, c39, c38, c48, c49, c50, v26, v26', m1, m2, ad, db, c30, ta, tb, ma, mb, ew]; rfl)) | (refine run_cond_t ?_ ?_; · simp only [go_sem]) | (refine run_cond_f ?_ ?_; · simp only [go_sem]))
    refine end_nil ⟨k - 1, by omega, r + 1, _, _, _, by omega, ?_, ?_, ?_, ?_, rfl, rfl, rfl⟩
    · simp (maxSteps := 9999999) only [go_sem, r3]
    · simp (maxSteps := 9999999) only [go_sem, r4]
    · simp (maxSteps := 9999999) only [go_sem, r5]
    · simp (maxSteps := 9999999) only [go_sem, ew]
/-- GaussGcds on the shadow machine -/
theorem law12 (x y z : Int × Int) (h : SHeap) : M.call 12 [agV x, agV y, agV z] h = some (.bool true, h, []) := by
  refine call_run sf12 rfl rfl rfl ?_
  unfold sf12
  repeat (first | apply run_seq | apply run_block | apply end_seq | apply end_blk_hit | apply end_blk_miss rfl | apply end_blk | apply end_seq_exit | apply end_seq_ret | apply end_blk_ret | apply run_skip | apply run_ret | apply run_exit | (apply run_region (by decide); (simp (maxSteps := 9999999) only [go_sem, argR]; rfl)) | (apply run_regionN (by decide); (simp (maxSteps := 9999999) only [go_sem, argR]; rfl)) | (refine run_cond_t ?_ ?_; · simp only [go_sem]) | (refine run_cond_f ?_ ?_; · simp only [go_sem]))
  refine run_loop (gcds_loop _ h z 2 _ _ _ _ ⟨0, x, y, [], rfl, ?_, ?_, ?_, ?_, rfl, rfl, rfl⟩) ?_
  · simp (maxSteps := 9999999) only [go_sem]
  · simp (maxSteps := 9999999) only [go_sem]
  · simp (maxSteps := 9999999) only [go_sem]
  · (simp (maxSteps := 9999999) only [go_sem]) <;> rfl
  rintro ex ρ' ms' h1 d1 ⟨rfl, rfl, ⟨g, rfl⟩, rfl⟩
  repeat (first | apply run_seq | apply run_block | apply end_seq | apply end_blk_hit | apply end_blk_miss rfl | apply end_blk | apply end_seq_exit | apply end_seq_ret | apply end_blk_ret | apply run_skip | apply run_ret | apply run_exit | (apply run_region (by decide); (simp (maxSteps := 9999999) only [go_sem, awake_call]; rfl)) | (apply run_regionN (by decide); (simp (maxSteps := 9999999) only [go_sem, awake_call]; rfl)) | (refine run_cond_t ?_ ?_; · simp only [go_sem]) | (refine run_cond_f ?_ ?_; · simp only [go_sem]))
  exact end_nil (q_ret1 _ (by simp (maxSteps := 9999999) only [go_sem]) rfl (take_app _ _))
end Go.Proofs.YtdmfhdnpakgkpaaDoor.Sh

