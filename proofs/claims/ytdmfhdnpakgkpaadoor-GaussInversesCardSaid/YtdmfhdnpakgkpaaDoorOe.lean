/- Bezout: the walk. -/
import Derived.Test.YtdmfhdnpakgkpaaDoorOc
import Derived.Test.YtdmfhdnpakgkpaaDoorOd
set_option linter.all false
namespace Go.Proofs.YtdmfhdnpakgkpaaDoor.Sh
open Go
set_option maxRecDepth 100000
set_option maxHeartbeats 4000000

theorem bez_loop (cx : Cx) (H : SHeap) {a b : Int × Int} (hb0 : b ≠ (0, 0)) (hb : Bd 30000 b) : ∀ k ρ ms h' d', (∃ (r s c d : Int × Int) (g : SHeap), (nrm s).toNat = k ∧ BZ a b r s c d ∧ Bd 90000 d ∧ ρ 4 = .pointer (some ⟨H.length + 2, 0, none⟩) ∧ ρ 5 = .pointer (some ⟨H.length + 3, 0, none⟩) ∧ ρ 6 = .pointer (some ⟨H.length + 4, 0, none⟩) ∧ ρ 9 = .pointer (some ⟨H.length + 6, 0, none⟩) ∧ ρ 10 = .pointer (some ⟨H.length + 7, 0, none⟩) ∧
      ρ 13 = .pointer (some ⟨H.length + 8, 0, none⟩) ∧ ρ 14 = .pointer (some ⟨H.length + 9, 0, none⟩) ∧ ρ 15 = .pointer (some ⟨H.length + 10, 0, none⟩) ∧ ρ 16 = .pointer (some ⟨H.length + 11, 0, none⟩) ∧ h' = H ++ (bx a :: bx b :: bz :: bz :: bz :: bs a b :: bn a :: bn b :: bn r :: bn s :: bn c :: bn d :: g) ∧ ms = [] ∧ d' = []) →
    LoopW M cx 7 sf48L0 ρ ms h' d' (fun ex ρ' ms' h' d' => ex = .exit 0 ∧ ms' = [] ∧ d' = [] ∧ ρ' 4 = .pointer (some ⟨H.length + 2, 0, none⟩) ∧ ρ' 5 = .pointer (some ⟨H.length + 3, 0, none⟩) ∧ ρ' 6 = .pointer (some ⟨H.length + 4, 0, none⟩) ∧ ρ' 9 = .pointer (some ⟨H.length + 6, 0, none⟩) ∧ ρ' 10 = .pointer (some ⟨H.length + 7, 0, none⟩) ∧
      ρ' 13 = .pointer (some ⟨H.length + 8, 0, none⟩) ∧ ρ' 15 = .pointer (some ⟨H.length + 10, 0, none⟩) ∧ ∃ (r c d : Int × Int) (g : SHeap), BE a b r c ∧ h' = H ++ (bx a :: bx b :: bz :: bz :: bz :: bs a b :: bn a :: bn b :: bn r :: bnz :: bn c :: bn d :: g)) := by
  refine loop_run _ ?_
  rintro k ρ ms h' d' ⟨r, s, c, d, g, hk, B, bd, r4, r5, r6, r9, r10, r13, r14, r15, r16, rfl, rfl, rfl⟩
  unfold sf48L0
  by_cases z : s = (0, 0)
  · subst z
    repeat (first | apply run_seq | apply run_block | apply end_seq | apply end_blk_hit | apply end_blk_miss rfl | apply end_blk | apply end_seq_exit | apply end_seq_ret | apply end_blk_ret | apply run_skip | apply run_ret | apply run_exit | (apply run_region (by decide); (simp (maxSteps := 9999999) only [go_sem, r4, r5, r6, r9, r10, r13, r14, r15, r16]; rfl)) | (apply run_regionN (by decide); (simp (maxSteps := 9999999) only [go_sem, r4, r5, r6, r9, r10, r13, r14, r15, r16]; rfl)) | (refine run_cond_t ?_ ?_; · simp only [go_sem]) | (refine run_cond_f ?_ ?_; · simp only [go_sem]))
    refine end_nil ⟨rfl, rfl, rfl, ?_, ?_, ?_, ?_, ?_, ?_, ?_, r, c, d, g, B.fin hb0, rfl⟩
    · simp (maxSteps := 9999999) only [go_sem, r4]
    · simp (maxSteps := 9999999) only [go_sem, r5]
    · simp (maxSteps := 9999999) only [go_sem, r6]
    · simp (maxSteps := 9999999) only [go_sem, r9]
    · simp (maxSteps := 9999999) only [go_sem, r10]
    · simp (maxSteps := 9999999) only [go_sem, r13]
    · simp (maxSteps := 9999999) only [go_sem, r15]
  · have z' : (s = (0, 0)) = False := eq_false z
    obtain ⟨br, bs⟩ := B.bdd
    have bc := B.small hb
    have c60 := fun h => quo60 br bs (by decide) (by decide) (by decide) z h
    have hn := nrm_pos z
    have bq := quo_bd br hn
    have c65 := fun h => times65 bq bd (by decide) h
    have c79 := fun h => minus79 bc (mulP_bd bq bd) (by decide) h
    have B' := B.step hb0 z
    have bd' : Bd 90000 (subP c (mulP (quoP r s) d)) := by
      have h1 := B'.bd
      have h2 := nrm_le hb
      have h3 := Int.mul_le_mul_of_nonneg_left hn (nrm_nonneg (subP c (mulP (quoP r s) d)))
      exact part_bd (by decide) (by omega)
    have rn := rest_nrm (x := r) hn
    have r0 := nrm_nonneg (restP r s)
    repeat (first | apply run_seq | apply run_block | apply end_seq | apply end_blk_hit | apply end_blk_miss rfl | apply end_blk | apply end_seq_exit | apply end_seq_ret | apply end_blk_ret | apply run_skip | apply run_ret | apply run_exit | (apply run_region (by decide); (simp (maxSteps := 9999999) only [go_sem, r4, r5, r6, r9, r10, r13, r14, r15, r16, z', c60, c65, c79]; rfl)) | (apply run_regionN (by decide); (simp (maxSteps := 9999999) only [go_sem, r4, r5, r6, r9, r10, r13, r14, r15, r16, z', c60, c65, c79]; rfl)) | (refine run_cond_t ?_ ?_; · simp only [go_sem]) | (refine run_cond_f ?_ ?_; · simp only [go_sem]))
    refine end_nil ⟨(nrm (restP r s)).toNat, by omega, s, restP r s, d, subP c (mulP (quoP r s) d), _, rfl, B', bd', ?_, ?_, ?_, ?_, ?_, ?_, ?_, ?_, ?_, rfl, rfl, rfl⟩
    · simp (maxSteps := 9999999) only [go_sem, r4]
    · simp (maxSteps := 9999999) only [go_sem, r5]
    · simp (maxSteps := 9999999) only [go_sem, r6]
    · simp (maxSteps := 9999999) only [go_sem, r9]
    · simp (maxSteps := 9999999) only [go_sem, r10]
    · simp (maxSteps := 9999999) only [go_sem, r13]
    · simp (maxSteps := 9999999) only [go_sem, r14]
    · simp (maxSteps := 9999999) only [go_sem, r15]
    · simp (maxSteps := 9999999) only [go_sem, r16]

/-- what Bezout's answer is -/
structure BR (a b u v : Int × Int) : Prop where
  made : addP (mulP u a) (mulP v b) = gcdP a b
  bu : Bd 30000 u
  bv : Bd 30000 v
theorem BE.br {a b r c : Int × Int} (h : BE a b r c) (ha : Bd 30000 a) (hb : Bd 30000 b) (hb0 : b ≠ (0, 0)) : BR a b (cc2 b r c) (cof a b r c) :=
  ⟨by rw [← h.made hb0, h.last]; rfl, h.c_bd hb hb0, h.o_bd ha hb hb0⟩

theorem bezout48 {a b : Int × Int} (ha : Bd 30000 a) (hb : Bd 30000 b) (h0 : b ≠ (0, 0)) (h : SHeap) : ∃ u v, BR a b u v ∧ M.call 48 [agV a, agV b] h = some (.tuple #[agV (gcdP a b), agV u, agV v, .int .i64 0], h, []) := by
  have c64 := open2 a b h [bx a, bx b, bz, bz, bz, bs a b] 5 rfl
  rw [if_pos ⟨ha, hb⟩] at c64
  have z' : (b = (0, 0)) = False := eq_false h0
  have key : ∃ r, (∃ u v, BR a b u v ∧ r = (Value.tuple #[agV (gcdP a b), agV u, agV v, .int .i64 0], h, ([] : List Nat))) ∧ M.call 48 [agV a, agV b] h = some r := by
    refine call_ex (f := 48) _ sf48 rfl rfl rfl ?_
    unfold sf48
    repeat (first | apply run_seq | apply run_block | apply end_seq | apply end_blk_hit | apply end_blk_miss rfl | apply end_blk | apply end_seq_exit | apply end_seq_ret | apply end_blk_ret | apply run_skip | apply run_ret | apply run_exit | (apply run_region (by decide); (simp (maxSteps := 9999999) only [go_sem, argR, c64, z', Nat.add_assoc]; rfl)) | (apply run_regionN (by decide); (simp (maxSteps := 9999999) only [go_sem, argR, c64, z', Nat.add_assoc]; rfl)) | (refine run_cond_t ?_ ?_; · simp only [go_sem]) | (refine run_cond_f ?_ ?_; · simp only [go_sem]))
    refine run_loop (bez_loop _ h h0 hb _ _ _ _ _ ⟨a, b, (1, 0), (0, 0), [], rfl, BZ.start ha hb h0, by decide, ?_, ?_, ?_, ?_, ?_, ?_, ?_, ?_, ?_, rfl, rfl, rfl⟩) ?_
    · simp (maxSteps := 9999999) only [go_sem]
    · simp (maxSteps := 9999999) only [go_sem]
    · simp (maxSteps := 9999999) only [go_sem]
    · simp (maxSteps := 9999999) only [go_sem]
    · simp (maxSteps := 9999999) only [go_sem]
    · simp (maxSteps := 9999999) only [go_sem]
    · simp (maxSteps := 9999999) only [go_sem]
    · simp (maxSteps := 9999999) only [go_sem]
    · simp (maxSteps := 9999999) only [go_sem]
    rintro ex ρ' ms' h1 d1 ⟨rfl, rfl, rfl, k4, k5, k6, k9, k10, k13, k15, r, c, d, g, B, rfl⟩
    have hr := nrm_pos B.ne
    have bfr : Bd 30000 (firP r).1 := by
      have e := fir_mul r
      have h1 := mulP_bd B.bdd (firU_bd r)
      unfold firP firstU
      dsimp only
      split
      · rw [mul_one]; exact B.bdd
      · split
        · exact turn_bd' B.bdd
        · split
          · have := B.bdd; unfold Bd at *; rw [mul_m]; dsimp only; omega
          · split
            · exact turn_bd B.bdd
            · rw [mul_one]; exact B.bdd
    have bfu : Bd 1 (firP r).2 := by
      have := firU_bd r
      unfold firP Bd conjP at *; dsimp only at *; omega
    have c73 := fun h => first73 (x := r) (B.bdd.mono (by decide)) h
    have c78 := fun h => turned78 bfu (by decide) h
    have ecj : conjP (firP r).2 = firstU r := conj_conj _
    rw [ecj] at c78
    have bc : Bd 90000 c := by
      have h1 := B.bc
      have h2 := nrm_le hb
      exact part_bd (by decide) (by omega)
    have c65 := fun h => times65 bc (firU_bd r) (by decide) h
    have e1 : mulP c (firstU r) = cc1 r c := rfl
    rw [e1] at c65
    have c60 := fun h => quo60 hb bfr (by decide) (by decide) (by decide) (fir_ne B.ne) h
    have e2 : quoP b (firP r).1 = whl b r := rfl
    rw [e2] at c60
    have c60' := fun h => quo60 (B.c1_bd hb) (B.w_bd hb) (by decide) (by decide) (by decide) (B.whole h0).2 h
    have e3 : restP (cc1 r c) (whl b r) = cc2 b r c := rfl
    rw [e3] at c60'
    have bc2 := B.c_bd hb h0
    have c65' := fun h => times65 bc2 ha (by decide) h
    have c79 := fun h => minus79 bfr (mulP_bd bc2 ha) (by decide) h
    have bsub : Bd 4000000000 (subP (firP r).1 (mulP (cc2 b r c) a)) := by
      have h1 := mulP_bd bc2 ha
      unfold Bd subP at *; dsimp only at *; omega
    have c60'' := fun h => quo60 bsub hb (by decide) (by decide) (by decide) h0 h
    have e4 : quoP (subP (firP r).1 (mulP (cc2 b r c) a)) b = cof a b r c := rfl
    rw [e4] at c60''
    repeat (first | apply run_seq | apply run_block | apply end_seq | apply end_blk_hit | apply end_blk_miss rfl | apply end_blk | apply end_seq_exit | apply end_seq_ret | apply end_blk_ret | apply run_skip | apply run_ret | apply run_exit | (apply run_region (by decide); (simp (maxSteps := 9999999) only [go_sem, k4, k5, k6, k9, k10, k13, k15, c73, c78, c65, c60, c60', c65', c79, c60'', Nat.add_assoc]; rfl)) | (apply run_regionN (by decide); (simp (maxSteps := 9999999) only [go_sem, k4, k5, k6, k9, k10, k13, k15, c73, c78, c65, c60, c60', c65', c79, c60'', Nat.add_assoc]; rfl)) | (refine run_cond_t ?_ ?_; · simp only [go_sem]) | (refine run_cond_f ?_ ?_; · simp only [go_sem]))
    refine end_nil ⟨_, ⟨cc2 b r c, cof a b r c, B.br ha hb h0, rfl⟩, ?_⟩
    have eg : gcdP a b = (firP r).1 := by unfold gcdP; rw [B.last]
    rw [eg]
    exact q_free [agV (firP r).1, agV (cc2 b r c), agV (cof a b r c), .int .i64 0] (by simp (maxSteps := 9999999) only [go_sem, k4, k5, k6]) rfl rfl rfl (fun _ => rfl) (take_app _ _) rfl
  obtain ⟨r, ⟨u, v, hbr, rfl⟩, e⟩ := key
  exact ⟨u, v, hbr, e⟩
end Go.Proofs.YtdmfhdnpakgkpaaDoor.Sh

