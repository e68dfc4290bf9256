/- The machine that knows Rests; GaussRests: the law. -/
import Derived.Test.YtdmfhdnpakgkpaaDoorH20
import Derived.Test.YtdmfhdnpakgkpaaDoorGi
import Derived.Test.YtdmfhdnpakgkpaaDoorGk
import Derived.Test.YtdmfhdnpakgkpaaDoorNq
set_option linter.all false
namespace Go.Proofs.YtdmfhdnpakgkpaaDoor.Sh
open Go Go.RowKit
set_option maxRecDepth 100000
set_option maxHeartbeats 4000000

/-- a number, read from its value -/
def pairV : Value → Option (Int × Int)
  | .agg cs => match cs.toList with
    | [.int .i64 a, .int .i64 b] => some (a, b)
    | _ => none
  | _ => none
theorem pairV_some {v : Value} {p : Int × Int} (h : pairV v = some p) : v = agV p := by
  cases v with
  | agg cs =>
    unfold pairV at h
    dsimp only at h
    split at h
    · rename_i a b e
      cases h
      have : cs = #[.int .i64 a, .int .i64 b] := Array.ext' e
      rw [this]
    · cases h
  | _ => cases h
def restsK : Kn
  | 25, [v], h => match pairV v with
    | some p => some (restsA p h)
    | none => none
  | _, _, _ => none
theorem restsK_ok : KnOK Tryd.prog restsK := by
  refine known_X mixed tab0 (flatK_ok CA_ok) tab (fun f args h r hr => ?_)
  unfold restsK at hr
  split at hr
  · split at hr
    · rename_i p hp
      cases hr
      rw [pairV_some hp]
      exact ⟨sf25, rfl, rfl, rests25X p _⟩
    · cases hr
  · cases hr
/-- the machine with Rests -/
noncomputable abbrev M2 : Rec := big FT0 (bothK (flatK CA) restsK)
theorem lift2 {f : FuncId} {args : List Value} {h : SHeap} {r : Value × SHeap × List Nat} (e : M.call f args h = some r) : M2.call f args h = some r := by
  refine (big_more (FT := FT0) (K1 := flatK CA) (K2 := restsK) (fun f args h _ hk => ?_)).1 _ _ _ _ e
  unfold restsK at hk
  split at hk
  · rfl
  · exact (hk rfl).elim
theorem rests25 (p : Int × Int) (h : SHeap) : M2.call 25 [agV p] h = some (restsA p h) := big_known (by rfl)
theorem awake_call2 (h : SHeap) : M2.call 22 [] h = some (.bool true, h, []) := lift2 (awake_call h)
theorem CA2_ok : KnOK Tryd.prog (bothK (flatK CA) restsK) := bothK_ok (flatK_ok CA_ok) restsK_ok
theorem walk_of2 {f : FuncId} {args : List Value} {v : Value} (hs : M2.call f args [] = some (v, [], [])) (ha : args.all (flat 3) = true) (hv : flat 3 v = true) (W : World) (hg : GlobW Tryd.prog W) :
    Calls Tryd.prog f args.toArray W (fun e W' => e = .returned v ∧ Below W.heap.size W W') :=
  callsIn_wide.1 ((always_big mixed tab0 CA2_ok hs ha hv).2 0 W hg)

theorem law5_loop (cx : Cx) (H : SHeap) : ∀ k ρ ms h' d', (∃ (i : Nat) (x : Int × Int) (g : SHeap), i + k = 2 ∧ ρ 1 = .pointer (some ⟨H.length, 0, none⟩) ∧ ρ 3 = .int .i64 i ∧ ms = [] ∧ h' = H ++ .cells [.int .i64 x.1, .int .i64 x.2] 34 true 0 [] :: g ∧ d' = []) →
    LoopW M2 cx 6 sf5L0 ρ ms h' d' (fun ex ρ' ms' h' d' => ex = .exit 0 ∧ ms' = [] ∧ (∃ g, h' = H ++ g) ∧ d' = []) := by
  refine loop_run _ ?_
  rintro k ρ ms h' d' ⟨i, x, g, hi, r1, r3, rfl, rfl, rfl⟩
  unfold sf5L0
  by_cases hk : k = 0
  · have e1 : ¬ ((i : Int) < 2) := by omega
    repeat (first | apply run_seq | apply run_block | apply end_seq | apply end_blk_hit | apply end_blk_miss rfl | apply end_blk | apply end_seq_exit | apply end_seq_ret | apply end_blk_ret | apply run_skip | apply run_ret | apply run_exit | (apply run_region (by decide); (simp (maxSteps := 9999999) only [go_sem, r1, r3, e1]; rfl)) | (apply run_regionN (by decide); (simp (maxSteps := 9999999) only [go_sem, r1, r3, e1]; rfl)) | (refine run_cond_t ?_ ?_; · simp only [go_sem]) | (refine run_cond_f ?_ ?_; · simp only [go_sem]))
    exact end_nil ⟨rfl, rfl, ⟨_, rfl⟩, rfl⟩
  · have e1 : ((i : Int) < 2) := by omega
    have ew : IntKind.i64.wrap ((i : Int) + 1) = ((i + 1 : Nat) : Int) := by rw [wrap64 (by omega) (by omega)]; rfl
    have c25 := fun h => rests25 x h
    have c26 := fun h => lift2 (validR26 x h)
    have c29 := fun h => lift2 (tame29 x (m := 15) (by omega) (by omega) h)
    generalize tameP x 15 = x' at *
    by_cases hb : Bd 30000 x
    · rw [decide_eq_true hb] at c26
      have c27 := fun h => lift2 (normR27 hb (by decide) h)
      by_cases hN1 : nrm x < 1
      · have e2 : (nrm x < 1) = True := eq_true hN1
        have hA : ∀ h, restsA x h = (.tuple #[.slice none 0 0, .int .i64 1], h, []) := fun h => by unfold restsA; rw [if_pos hb, if_pos (.inl hN1)]
        simp only [hA] at c25
        repeat (first | apply run_seq | apply run_block | apply end_seq | apply end_blk_hit | apply end_blk_miss rfl | apply end_blk | apply end_seq_exit | apply end_seq_ret | apply end_blk_ret | apply run_skip | apply run_ret | apply run_exit | (apply run_region (by decide); (simp (maxSteps := 9999999) only [go_sem, r1, r3, e1, e2, c25, c26, c27, c29, ew]; rfl)) | (apply run_regionN (by decide); (simp (maxSteps := 9999999) only [go_sem, r1, r3, e1, e2, c25, c26, c27, c29, ew]; rfl)) | (refine run_cond_t ?_ ?_; · simp only [go_sem]) | (refine run_cond_f ?_ ?_; · simp only [go_sem]))
        exact end_nil ⟨k - 1, by omega, i + 1, x', g, by omega, by simp (maxSteps := 9999999) only [go_sem, r1], by simp (maxSteps := 9999999) only [go_sem, ew], rfl, by simp (maxSteps := 9999999) only [go_sem], rfl⟩
      · have e2 : (nrm x < 1) = False := eq_false hN1
        by_cases hN2 : 500 < nrm x
        · have e3 : (500 < nrm x) = True := eq_true hN2
          have hA : ∀ h, restsA x h = (.tuple #[.slice none 0 0, .int .i64 1], h, []) := fun h => by unfold restsA; rw [if_pos hb, if_pos (.inr hN2)]
          simp only [hA] at c25
          repeat (first | apply run_seq | apply run_block | apply end_seq | apply end_blk_hit | apply end_blk_miss rfl | apply end_blk | apply end_seq_exit | apply end_seq_ret | apply end_blk_ret | apply run_skip | apply run_ret | apply run_exit | (apply run_region (by decide); (simp (maxSteps := 9999999) only [go_sem, r1, r3, e1, e2, e3, c25, c26, c27, c29, ew]; rfl)) | (apply run_regionN (by decide); (simp (maxSteps := 9999999) only [go_sem, r1, r3, e1, e2, e3, c25, c26, c27, c29, ew]; rfl)) | (refine run_cond_t ?_ ?_; · simp only [go_sem]) | (refine run_cond_f ?_ ?_; · simp only [go_sem]))
          exact end_nil ⟨k - 1, by omega, i + 1, x', g, by omega, by simp (maxSteps := 9999999) only [go_sem, r1], by simp (maxSteps := 9999999) only [go_sem, ew], rfl, by simp (maxSteps := 9999999) only [go_sem], rfl⟩
        · have e3 : (500 < nrm x) = False := eq_false hN2
          have hA : ∀ h, restsA x h = (.tuple #[resV h (restsL x).length 2, .int .i64 0], resH h (prs (restsL x)) (restsL x).length 34, []) := fun h => by unfold restsA; rw [if_pos hb, if_neg (by omega)]
          have h0 : x ≠ (0, 0) := by
            rintro rfl
            exact hN1 (by decide)
          have hN : (nrm x).toNat ≤ 500 := by omega
          have hlen := len_restsL hN
          generalize hH : H ++ .cells [.int .i64 x.1, .int .i64 x.2] 34 true 0 [] :: g = H0 at *
          have c25' := c25 H0
          rw [hA] at c25'
          have c28 := lift2 (restsR28 hb h0 hN (resH H0 (prs (restsL x)) (restsL x).length 34))
          obtain ⟨g1, hg1⟩ := resH_pre H0 (prs (restsL x)) (restsL x).length 34
          obtain ⟨g2, hg2⟩ := resH_pre (resH H0 (prs (restsL x)) (restsL x).length 34) (prs (restsL x)) (restsL x).length 34
          have p1 := PS.ofRes H0 g2 (restsL x) 34
          have p2 := PS.ofRes (resH H0 (prs (restsL x)) (restsL x).length 34) [] (restsL x) 34
          rw [List.append_nil, hg2] at p2
          rw [hg2] at c28
          generalize resV (resH H0 (prs (restsL x)) (restsL x).length 34) (restsL x).length 2 = w at *
          generalize resV H0 (restsL x).length 2 = u at *
          rw [hg1] at c25' c28 p1 p2
          have c19 := lift2 (pairs19 p1 p2 (by omega))
          rw [decide_eq_true rfl] at c19
          subst hH
          simp only [List.append_assoc, List.cons_append] at c25' c28 c19
          repeat (first | apply run_seq | apply run_block | apply end_seq | apply end_blk_hit | apply end_blk_miss rfl | apply end_blk | apply end_seq_exit | apply end_seq_ret | apply end_blk_ret | apply run_skip | apply run_ret | apply run_exit | (apply run_region (by decide); (simp (maxSteps := 9999999) only [go_sem, r1, r3, e1, e2, e3, c25', c26, c27, c28, c19, c29, ew]; rfl)) | (apply run_regionN (by decide); (simp (maxSteps := 9999999) only [go_sem, r1, r3, e1, e2, e3, c25', c26, c27, c28, c19, c29, ew]; rfl)) | (refine run_cond_t ?_ ?_; · simp only [go_sem]) | (refine run_cond_f ?_ ?_; · simp only [go_sem]))
          exact end_nil ⟨k - 1, by omega, i + 1, x', _, by omega, by simp (maxSteps := 9999999) only [go_sem, r1], by simp (maxSteps := 9999999) only [go_sem, ew], rfl, by rfl, rfl⟩
    · rw [decide_eq_false hb] at c26
      have hA : ∀ h, restsA x h = (.tuple #[.slice none 0 0, .int .i64 70], h, []) := fun h => by unfold restsA; rw [if_neg hb]
      simp only [hA] at c25
      repeat (first | apply run_seq | apply run_block | apply end_seq | apply end_blk_hit | apply end_blk_miss rfl | apply end_blk | apply end_seq_exit | apply end_seq_ret | apply end_blk_ret | apply run_skip | apply run_ret | apply run_exit | (apply run_region (by decide); (simp (maxSteps := 9999999) only [go_sem, r1, r3, e1, c25, c26, c29, ew]; rfl)) | (apply run_regionN (by decide); (simp (maxSteps := 9999999) only [go_sem, r1, r3, e1, c25, c26, c29, ew]; rfl)) | (refine run_cond_t ?_ ?_; · simp only [go_sem]) | (refine run_cond_f ?_ ?_; · simp only [go_sem]))
      exact end_nil ⟨k - 1, by omega, i + 1, x', g, by omega, by simp (maxSteps := 9999999) only [go_sem, r1], by simp (maxSteps := 9999999) only [go_sem, ew], rfl, by simp (maxSteps := 9999999) only [go_sem], rfl⟩
/-- GaussRests on the shadow machine -/
theorem law5 (x : Int × Int) (h : SHeap) : M2.call 5 [agV x] h = some (.bool true, h, []) := by
  refine call_run sf5 rfl rfl rfl ?_
  unfold sf5
  repeat (first | apply run_seq | apply run_block | apply end_seq | apply end_blk_hit | apply end_blk_miss rfl | apply end_blk | apply end_seq_exit | apply end_seq_ret | apply end_blk_ret | apply run_skip | apply run_ret | apply run_exit | (apply run_region (by decide); (simp (maxSteps := 9999999) only [go_sem, argR]; rfl)) | (apply run_regionN (by decide); (simp (maxSteps := 9999999) only [go_sem, argR]; rfl)) | (refine run_cond_t ?_ ?_; · simp only [go_sem]) | (refine run_cond_f ?_ ?_; · simp only [go_sem]))
  refine run_loop (law5_loop _ h 2 _ _ _ _ ⟨0, x, [], by omega, by simp (maxSteps := 9999999) only [go_sem], by simp (maxSteps := 9999999) only [go_sem], rfl, by simp (maxSteps := 9999999) only [go_sem], rfl⟩) ?_
  rintro ex ρ' ms' h1 d1 ⟨rfl, rfl, ⟨g, rfl⟩, rfl⟩
  repeat (first | apply run_seq | apply run_block | apply end_seq | apply end_blk_hit | apply end_blk_miss rfl | apply end_blk | apply end_seq_exit | apply end_seq_ret | apply end_blk_ret | apply run_skip | apply run_ret | apply run_exit | (apply run_region (by decide); (simp (maxSteps := 9999999) only [go_sem, awake_call2]; rfl)) | (apply run_regionN (by decide); (simp (maxSteps := 9999999) only [go_sem, awake_call2]; rfl)) | (refine run_cond_t ?_ ?_; · simp only [go_sem]) | (refine run_cond_f ?_ ?_; · simp only [go_sem]))
  exact end_nil (q_ret1 _ (by simp (maxSteps := 9999999) only [go_sem]) rfl (take_app _ _))
end Go.Proofs.YtdmfhdnpakgkpaaDoor.Sh

