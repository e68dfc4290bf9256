/- GaussFermat: the walk. -/
import Derived.Test.YtdmfhdnpakgkpaaDoorNi
import Derived.Test.YtdmfhdnpakgkpaaDoorNe
import Derived.Test.YtdmfhdnpakgkpaaDoorGm
set_option linter.all false
namespace Go.Proofs.YtdmfhdnpakgkpaaDoor.Sh
open Go
set_option maxRecDepth 100000

theorem fer_loop1 (cx : Cx) {n : Nat} (hn : n ≤ 5000) (H : SHeap) (c : Int) (u : Value) : ∀ k ρ ms h' d', (∃ j : Nat, j + k = n ∧ ρ 0 = .int .i64 n ∧ ρ 3 = .int .i64 c ∧ ρ 5 = u ∧ ρ 7 = .int .i64 (sD f1 n j) ∧ ρ 8 = .int .i64 (sD f3 n j) ∧ ρ 9 = .int .i64 (sD f0 n j) ∧ ρ 10 = .int .i64 ((j + 1 : Nat)) ∧ ms = [] ∧ h' = H ∧ d' = []) →
    LoopW M cx 8 sf11L1 ρ ms h' d' (fun ex ρ' ms' h' d' => ex = .exit 0 ∧ ms' = [] ∧ h' = H ∧ d' = [] ∧ ρ' 0 = .int .i64 n ∧ ρ' 3 = .int .i64 c ∧ ρ' 5 = u ∧ ρ' 7 = .int .i64 (sD f1 n n) ∧ ρ' 8 = .int .i64 (sD f3 n n) ∧ ρ' 9 = .int .i64 (sD f0 n n)) := by
  refine loop_run _ ?_
  rintro k ρ ms h' d' ⟨j, hj, r0, r3, r5, r7, r8, r9, r10, rfl, rfl, rfl⟩
  unfold sf11L1
  by_cases hk : k = 0
  · have ej : j = n := by omega
    subst ej
    have e1 : ¬ (((j + 1 : Nat) : Int) ≤ j) := by omega
    repeat (first | apply run_seq | apply run_block | apply end_seq | apply end_blk_hit | apply end_blk_miss rfl | apply end_blk | apply end_seq_exit | apply end_seq_ret | apply end_blk_ret | apply run_skip | apply run_ret | apply run_exit | (apply run_region (by decide); (simp only [go_sem, r0, r10, e1]; rfl)) | (apply run_regionN (by decide); (simp only [go_sem, r0, r10, e1]; rfl)) | (refine run_cond_t ?_ ?_; · simp only [go_sem]) | (refine run_cond_f ?_ ?_; · simp only [go_sem]))
    refine end_nil ⟨rfl, rfl, rfl, rfl, ?_, ?_, ?_, ?_, ?_, ?_⟩
    · simp only [go_sem, r0]
    · simp only [go_sem, r3]
    · simp only [go_sem, r5]
    · simp only [go_sem, r7]
    · simp only [go_sem, r8]
    · simp only [go_sem, r9]
  · have e1 : ((j + 1 : Nat) : Int) ≤ n := by omega
    have hz : ¬ (((j + 1 : Nat) : Int) = 0) := by omega
    have ew : IntKind.i64.wrap (((j + 1 : Nat) : Int) + 1) = ((j + 1 + 1 : Nat) : Int) := by rw [wrap64 (by omega) (by omega)]; rfl
    have b1 := sD_bd f1_le n j
    have b3 := sD_bd f3_le n j
    have b0 := sD_bd f0_le n j
    have t1 := sD_succ f1 n j
    have t3 := sD_succ f3 n j
    have t0 := sD_succ f0 n j
    have g0 : ((f0 (j + 1) : Nat) : Int) = 1 := rfl
    rw [g0] at t0
    rw [f1_eq] at t1
    rw [f3_eq] at t3
    have w1 : IntKind.i64.wrap (sD f1 n j + 1) = sD f1 n j + 1 := wrap64 (by omega) (by omega)
    have w3 : IntKind.i64.wrap (sD f3 n j + 1) = sD f3 n j + 1 := wrap64 (by omega) (by omega)
    have w0 : IntKind.i64.wrap (sD f0 n j + 1) = sD f0 n j + 1 := wrap64 (by omega) (by omega)
    have m1 := tmod_nat n (j + 1)
    have m4 : ((j + 1 : Nat) : Int).tmod 4 = (((j + 1) % 4 : Nat) : Int) := tmod_nat (j + 1) 4
    have fin : ∀ (ρ' : Reg), ρ' 0 = .int .i64 n → ρ' 3 = .int .i64 c → ρ' 5 = u → ρ' 7 = .int .i64 (sD f1 n (j + 1)) → ρ' 8 = .int .i64 (sD f3 n (j + 1)) → ρ' 9 = .int .i64 (sD f0 n (j + 1)) → ρ' 10 = .int .i64 ((j + 1 + 1 : Nat)) →
        ∃ k', k' < k ∧ ∃ j : Nat, j + k' = n ∧ ρ' 0 = .int .i64 n ∧ ρ' 3 = .int .i64 c ∧ ρ' 5 = u ∧ ρ' 7 = .int .i64 (sD f1 n j) ∧ ρ' 8 = .int .i64 (sD f3 n j) ∧ ρ' 9 = .int .i64 (sD f0 n j) ∧ ρ' 10 = .int .i64 ((j + 1 : Nat)) ∧ ([] : List Nat) = [] ∧ h' = h' ∧ ([] : List Nat) = [] :=
      fun ρ' a b c d e f g => ⟨k - 1, by omega, j + 1, by omega, a, b, c, d, e, f, g, rfl, rfl, rfl⟩
    by_cases c0 : n % (j + 1) = 0
    · rw [if_pos c0] at t1 t3 t0
      rw [c0] at m1
      by_cases c1 : (j + 1) % 4 = 1
      · rw [if_pos c1] at t1
        rw [if_neg (by omega)] at t3
        have e2 : (((j + 1) % 4 : Nat) : Int) = 1 := by omega
        repeat (first | apply run_seq | apply run_block | apply end_seq | apply end_blk_hit | apply end_blk_miss rfl | apply end_blk | apply end_seq_exit | apply end_seq_ret | apply end_blk_ret | apply run_skip | apply run_ret | apply run_exit | (apply run_region (by decide); (simp only [go_sem, r0, r7, r8, r9, r10, e1, hz, m1, m4, e2, w0, w1, w3, ew]; rfl)) | (apply run_regionN (by decide); (simp only [go_sem, r0, r7, r8, r9, r10, e1, hz, m1, m4, e2, w0, w1, w3, ew]; rfl)) | (refine run_cond_t ?_ ?_; · simp only [go_sem]) | (refine run_cond_f ?_ ?_; · simp only [go_sem]))
        refine end_nil (fin _ ?_ ?_ ?_ ?_ ?_ ?_ ?_)
        · simp only [go_sem, r0]
        · simp only [go_sem, r3]
        · simp only [go_sem, r5]
        · rw [t1]; simp only [go_sem]
        · rw [t3]; simp only [go_sem, r8]
        · rw [t0]; simp only [go_sem]
        · simp only [go_sem, ew]
      · rw [if_neg c1] at t1
        by_cases c3 : (j + 1) % 4 = 3
        · rw [if_pos c3] at t3
          have e2 : (((j + 1) % 4 : Nat) : Int) = 3 := by omega
          repeat (first | apply run_seq | apply run_block | apply end_seq | apply end_blk_hit | apply end_blk_miss rfl | apply end_blk | apply end_seq_exit | apply end_seq_ret | apply end_blk_ret | apply run_skip | apply run_ret | apply run_exit | (apply run_region (by decide); (simp only [go_sem, r0, r7, r8, r9, r10, e1, hz, m1, m4, e2, w0, w1, w3, ew]; rfl)) | (apply run_regionN (by decide); (simp only [go_sem, r0, r7, r8, r9, r10, e1, hz, m1, m4, e2, w0, w1, w3, ew]; rfl)) | (refine run_cond_t ?_ ?_; · simp only [go_sem]) | (refine run_cond_f ?_ ?_; · simp only [go_sem]))
          refine end_nil (fin _ ?_ ?_ ?_ ?_ ?_ ?_ ?_)
          · simp only [go_sem, r0]
          · simp only [go_sem, r3]
          · simp only [go_sem, r5]
          · rw [t1]; simp only [go_sem, r7]
          · rw [t3]; simp only [go_sem]
          · rw [t0]; simp only [go_sem]
          · simp only [go_sem, ew]
        · rw [if_neg c3] at t3
          have e2 : ¬ (((j + 1) % 4 : Nat) : Int) = 1 := by omega
          have e3 : ¬ (((j + 1) % 4 : Nat) : Int) = 3 := by omega
          repeat (first | apply run_seq | apply run_block | apply end_seq | apply end_blk_hit | apply end_blk_miss rfl | apply end_blk | apply end_seq_exit | apply end_seq_ret | apply end_blk_ret | apply run_skip | apply run_ret | apply run_exit | (apply run_region (by decide); (simp only [go_sem, r0, r7, r8, r9, r10, e1, hz, m1, m4, e2, e3, w0, w1, w3, ew]; rfl)) | (apply run_regionN (by decide); (simp only [go_sem, r0, r7, r8, r9, r10, e1, hz, m1, m4, e2, e3, w0, w1, w3, ew]; rfl)) | (refine run_cond_t ?_ ?_; · simp only [go_sem]) | (refine run_cond_f ?_ ?_; · simp only [go_sem]))
          refine end_nil (fin _ ?_ ?_ ?_ ?_ ?_ ?_ ?_)
          · simp only [go_sem, r0]
          · simp only [go_sem, r3]
          · simp only [go_sem, r5]
          · rw [t1]; simp only [go_sem, r7]
          · rw [t3]; simp only [go_sem, r8]
          · rw [t0]; simp only [go_sem]
          · simp only [go_sem, ew]
    · rw [if_neg c0] at t1 t3 t0
      have e2 : ¬ ((n % (j + 1) : Nat) : Int) = 0 := by omega
      repeat (first | apply run_seq | apply run_block | apply end_seq | apply end_blk_hit | apply end_blk_miss rfl | apply end_blk | apply end_seq_exit | apply end_seq_ret | apply end_blk_ret | apply run_skip | apply run_ret | apply run_exit | (apply run_region (by decide); (simp only [go_sem, r0, r7, r8, r9, r10, e1, hz, m1, e2, ew]; rfl)) | (apply run_regionN (by decide); (simp only [go_sem, r0, r7, r8, r9, r10, e1, hz, m1, e2, ew]; rfl)) | (refine run_cond_t ?_ ?_; · simp only [go_sem]) | (refine run_cond_f ?_ ?_; · simp only [go_sem]))
      refine end_nil (fin _ ?_ ?_ ?_ ?_ ?_ ?_ ?_)
      · simp only [go_sem, r0]
      · simp only [go_sem, r3]
      · simp only [go_sem, r5]
      · rw [t1, Int.add_zero]; simp only [go_sem, r7]
      · rw [t3, Int.add_zero]; simp only [go_sem, r8]
      · rw [t0, Int.add_zero]; simp only [go_sem, r9]
      · simp only [go_sem, ew]

theorem fer_loop2 (cx : Cx) {n : Nat} (hn : n ≤ 5000) {h : SHeap} {v : Value} (hv : PS h v (sqs n)) (o3 o1 o0 : Int) : ∀ k ρ ms h' d', (∃ i : Nat, i + k = (sqs n).length ∧ ρ 0 = .int .i64 n ∧ ρ 5 = v ∧ ρ 9 = .int .i64 o0 ∧ ρ 11 = .int .i64 i ∧ ms = [] ∧ h' = h ∧ d' = []) →
    LoopW M cx 8 sf11L0 ρ ms h' d' (fun ex ρ' ms' h' d' => ex = .exit 2 ∧ ms' = [] ∧ h' = h ∧ d' = [] ∧ ρ' 0 = .int .i64 n ∧ ρ' 5 = v ∧ ρ' 9 = .int .i64 o0) := by
  have hlen := sqs_len (n := n) (by omega)
  obtain ⟨va, ca, rfl, ka⟩ := hv
  refine loop_run _ ?_
  rintro k ρ ms h' d' ⟨i, hi, r0, r5, r9, r11, rfl, rfl, rfl⟩
  unfold sf11L0
  by_cases hk : k = 0
  · have e1 : ¬ ((i : Int) < (sqs n).length) := by omega
    repeat (first | apply run_seq | apply run_block | apply end_seq | apply end_blk_hit | apply end_blk_miss rfl | apply end_blk | apply end_seq_exit | apply end_seq_ret | apply end_blk_ret | apply run_skip | apply run_ret | apply run_exit | (apply run_region (by decide); (simp only [go_sem, r5, r11, e1]; rfl)) | (apply run_regionN (by decide); (simp only [go_sem, r5, r11, e1]; rfl)) | (refine run_cond_t ?_ ?_; · simp only [go_sem]) | (refine run_cond_f ?_ ?_; · simp only [go_sem]))
    refine end_nil ⟨rfl, rfl, rfl, rfl, ?_, ?_, ?_⟩
    · simp only [go_sem, r0]
    · simp only [go_sem, r5]
    · simp only [go_sem, r9]
  · have e1 : (i : Int) < (sqs n).length := by omega
    have e2 : (0 : Int) ≤ i := by omega
    have hia : i < (sqs n).length := by omega
    have ew : IntKind.i64.wrap ((i : Int) + 1) = ((i + 1 : Nat) : Int) := by rw [wrap64 (by omega) (by omega)]; rfl
    obtain ⟨ba, oa, rfl, pa⟩ := ka (by intro e; rw [e] at hia; simp at hia)
    have l1 := pa.load1 hia
    have l2 := pa.load2 hia
    have l3 := pa.loadN hia
    have hm : (sqs n)[i] ∈ sqs n := List.getElem_mem hia
    have hp := sqs_pos _ hm
    have hq := sqs_nrm _ hm
    generalize (sqs n)[i] = p at *
    have b2 : p.2 ≤ 100 := by
      by_cases c : p.2 ≤ 100
      · exact c
      · exfalso
        have m1 := Int.mul_le_mul (show (101 : Int) ≤ p.2 by omega) (show (101 : Int) ≤ p.2 by omega) (by omega) (by omega)
        have := sqn p.1
        unfold nrm at hq
        omega
    have c27 := fun h => normR27 (p := p) (A := 100) ⟨by omega, by omega, by omega, b2⟩ (by decide) h
    rw [hq] at c27
    have q1 : ¬ (p.1 < 0) := by omega
    have q2 : ¬ (p.2 < p.1) := by omega
    have q3 : ¬ ((100 : Int) < p.2) := by omega
    repeat (first | apply run_seq | apply run_block | apply end_seq | apply end_blk_hit | apply end_blk_miss rfl | apply end_blk | apply end_seq_exit | apply end_seq_ret | apply end_blk_ret | apply run_skip | apply run_ret | apply run_exit | (apply run_region (by decide); (simp only [go_sem, r0, r5, r11, e1, e2, l1, l2, l3, q1, q2, q3, c27, ew]; rfl)) | (apply run_regionN (by decide); (simp only [go_sem, r0, r5, r11, e1, e2, l1, l2, l3, q1, q2, q3, c27, ew]; rfl)) | (refine run_cond_t ?_ ?_; · simp only [go_sem]) | (refine run_cond_f ?_ ?_; · simp only [go_sem]))
    refine end_nil ⟨k - 1, by omega, i + 1, by omega, ?_, ?_, ?_, ?_, rfl, rfl, rfl⟩
    · simp only [go_sem, r0]
    · simp only [go_sem, r5]
    · simp only [go_sem, r9]
    · simp only [go_sem, ew]

/-- GaussFermat on the shadow machine -/
theorem law11 (z : Int) (h : SHeap) : M.call 11 [.int .i64 z] h = some (.bool true, h, []) := by
  obtain ⟨q1, q2⟩ := u64_mod' z 5000 (by decide)
  generalize hq : (IntKind.u64.wrap z).tmod 5000 = q at *
  have w1 : IntKind.i64.wrap q = q := wrap64 (by omega) (by omega)
  have w2 : IntKind.i64.wrap (1 + q) = 1 + q := wrap64 (by omega) (by omega)
  obtain ⟨n, hn⟩ : ∃ n : Nat, 1 + q = n := ⟨(1 + q).toNat, by omega⟩
  rw [hn] at w2
  have n1 : 1 ≤ n := by omega
  have n2 : n ≤ 5000 := by omega
  have F := fer n1 n2
  obtain ⟨u, g, c17, hu⟩ := sq17_ex (n := n) (by omega) h
  have c18 := count18 (n := n) (by omega) h
  have hz := cnt_zero (sqs n)
  have hlen := sqs_len (n := n) (by omega)
  have hcl := cnt_le (sqs n)
  have hu0 := hu
  obtain ⟨a, c, hus, hk⟩ := hu
  have zz : (decide (cnt (sqs n) = 0) == decide (((sqs n).length : Int) = 0)) = true := by
    by_cases e : sqs n = []
    · rw [decide_eq_true (hz.2 e), decide_eq_true (by rw [e]; rfl)]; rfl
    · rw [decide_eq_false (fun h => e (hz.1 h)), decide_eq_false (fun h => e (List.length_eq_zero_iff.1 (by omega)))]; rfl
  refine call_run sf11 rfl rfl rfl ?_
  unfold sf11
  rw [hus] at c17
  show Run M _ 8 _ _ _ _ _ _ _
  repeat (first | apply run_seq | apply run_block | apply end_seq | apply end_blk_hit | apply end_blk_miss rfl | apply end_blk | apply end_seq_exit | apply end_seq_ret | apply end_blk_ret | apply run_skip | apply run_ret | apply run_exit | (apply run_region (by decide); (simp only [go_sem, argR, hq, w1, w2, hn, c17, c18, zz]; rfl)) | (apply run_regionN (by decide); (simp only [go_sem, argR, hq, w1, w2, hn, c17, c18, zz]; rfl)) | (refine run_cond_t ?_ ?_; · simp only [go_sem]) | (refine run_cond_f ?_ ?_; · simp only [go_sem]))
  refine run_loop (fer_loop1 _ n2 (h ++ g) (cnt (sqs n)) (.slice a (sqs n).length c) n _ _ _ _ ⟨0, by omega, ?_, ?_, ?_, ?_, ?_, ?_, ?_, rfl, rfl, rfl⟩) ?_
  · simp only [go_sem]
  · simp only [go_sem]
  · simp only [go_sem]
  · (simp only [go_sem]) <;> rfl
  · (simp only [go_sem]) <;> rfl
  · (simp only [go_sem]) <;> rfl
  · (simp only [go_sem]) <;> rfl
  rintro ex ρ' ms' h1 d1 ⟨rfl, rfl, rfl, rfl, k0, k3, k5, k7, k8, k9⟩
  have b1 := sD_bd f1_le n n
  have b3 := sD_bd f3_le n n
  have x1 : IntKind.i64.wrap (sD f1 n n - sD f3 n n) = sD f1 n n - sD f3 n n := wrap64 (by omega) (by omega)
  have x2 : IntKind.i64.wrap (4 * (sD f1 n n - sD f3 n n)) = cnt (sqs n) := by rw [wrap64 (by omega) (by omega), F.jac]
  repeat (first | apply run_seq | apply run_block | apply end_seq | apply end_blk_hit | apply end_blk_miss rfl | apply end_blk | apply end_seq_exit | apply end_seq_ret | apply end_blk_ret | apply run_skip | apply run_ret | apply run_exit | (apply run_region (by decide); (simp only [go_sem, k0, k3, k5, k7, k8, k9, x1, x2]; rfl)) | (apply run_regionN (by decide); (simp only [go_sem, k0, k3, k5, k7, k8, k9, x1, x2]; rfl)) | (refine run_cond_t ?_ ?_; · simp only [go_sem]) | (refine run_cond_f ?_ ?_; · simp only [go_sem]))
  refine run_loop (fer_loop2 _ n2 (h := h ++ g) (v := .slice a (sqs n).length c) (hus ▸ hu0) 0 0 (sD f0 n n) (sqs n).length _ _ _ _ ⟨0, by omega, ?_, ?_, ?_, ?_, rfl, rfl, rfl⟩) ?_
  · simp only [go_sem, k0]
  · simp only [go_sem, k5]
  · simp only [go_sem, k9]
  · (simp only [go_sem]) <;> rfl
  rintro ex ρ2 ms2 h2 d2 ⟨rfl, rfl, rfl, rfl, j0, j5, j9⟩
  by_cases c1 : sD f0 n n = 2
  · by_cases c2 : n = 2
    · have c2' : (n : Int) = 2 := by omega
      repeat (first | apply run_seq | apply run_block | apply end_seq | apply end_blk_hit | apply end_blk_miss rfl | apply end_blk | apply end_seq_exit | apply end_seq_ret | apply end_blk_ret | apply run_skip | apply run_ret | apply run_exit | (apply run_region (by decide); (simp only [go_sem, j0, j5, j9, c1, c2', awake_call]; rfl)) | (apply run_regionN (by decide); (simp only [go_sem, j0, j5, j9, c1, c2', awake_call]; rfl)) | (refine run_cond_t ?_ ?_; · simp only [go_sem]) | (refine run_cond_f ?_ ?_; · simp only [go_sem]))
      exact end_nil (q_ret1 _ (by simp only [go_sem]) rfl (take_app _ _))
    · have c2' : ((n : Int) = 2) = False := eq_false (by omega)
      obtain ⟨hp, hr⟩ := F.pr c1 c2
      have c23 := fun h => root23 (p := n) (by
        have := (sD_bd f0_le n n).2
        omega) (by omega) h
      have c45 := fun h => prime45 (p := ((n : Int), 0)) ⟨by show (-30000 : Int) ≤ n; omega, by show (n : Int) ≤ 30000; omega, by show (-30000 : Int) ≤ 0; decide, by show (0 : Int) ≤ 30000; decide⟩ h
      have hmx : mxP ((n : Int), 0) = n := by unfold mxP; dsimp only; omega
      have hpp : primeP ((n : Int), 0) = decide (n % 4 = 3) := by
        unfold primeP
        rw [if_pos (.inr rfl), hmx, hp, Bool.and_true]
      dsimp only at c45
      rw [hpp] at c45
      have m4 : ((n : Nat) : Int).tmod 4 = ((n % 4 : Nat) : Int) := tmod_nat n 4
      rcases hr with ⟨r1, r2, r3⟩ | ⟨r1, r2, r3, r4, r5⟩
      · have z1 : ((n % 4 : Nat) : Int) = 3 := by omega
        have z2 : ((sqs n).length : Int) = 0 := by omega
        rw [r3] at c23
        simp only [r1, decide_true] at c45
        repeat (first | apply run_seq | apply run_block | apply end_seq | apply end_blk_hit | apply end_blk_miss rfl | apply end_blk | apply end_seq_exit | apply end_seq_ret | apply end_blk_ret | apply run_skip | apply run_ret | apply run_exit | (apply run_region (by decide); (simp only [go_sem, j0, j5, j9, c1, c2', c23, c45, m4, z1, z2, awake_call]; rfl)) | (apply run_regionN (by decide); (simp only [go_sem, j0, j5, j9, c1, c2', c23, c45, m4, z1, z2, awake_call]; rfl)) | (refine run_cond_t ?_ ?_; · simp only [go_sem]) | (refine run_cond_f ?_ ?_; · simp only [go_sem]))
        exact end_nil (q_ret1 _ (by simp only [go_sem]) rfl (take_app _ _))
      · have z1 : ((n % 4 : Nat) : Int) = 1 := by omega
        have z2 : ((sqs n).length : Int) = 1 := by omega
        rw [if_neg (show ¬ rootN n = 0 by omega)] at c23
        simp only [r1, Nat.reduceEqDiff, decide_false] at c45
        have y1 : (1 : Int) ≤ (rootN n : Int) := by omega
        have y2 : (rootN n : Int) < n := by omega
        obtain ⟨s1, s2, s3⟩ := sq_step (x := rootN n) (p := n) (by omega)
        rw [r5] at s3
        have hn0 : ¬ ((n : Int) = 0) := by omega
        repeat (first | apply run_seq | apply run_block | apply end_seq | apply end_blk_hit | apply end_blk_miss rfl | apply end_blk | apply end_seq_exit | apply end_seq_ret | apply end_blk_ret | apply run_skip | apply run_ret | apply run_exit | (apply run_region (by decide); (simp only [go_sem, j0, j5, j9, c1, c2', c23, c45, m4, z1, z2, y1, y2, s1, s2, s3, hn0, awake_call]; rfl)) | (apply run_regionN (by decide); (simp only [go_sem, j0, j5, j9, c1, c2', c23, c45, m4, z1, z2, y1, y2, s1, s2, s3, hn0, awake_call]; rfl)) | (refine run_cond_t ?_ ?_; · simp only [go_sem]) | (refine run_cond_f ?_ ?_; · simp only [go_sem]))
        exact end_nil (q_ret1 _ (by simp only [go_sem]) rfl (take_app _ _))
  · repeat (first | apply run_seq | apply run_block | apply end_seq | apply end_blk_hit | apply end_blk_miss rfl | apply end_blk | apply end_seq_exit | apply end_seq_ret | apply end_blk_ret | apply run_skip | apply run_ret | apply run_exit | (apply run_region (by decide); (simp only [go_sem, j0, j5, j9, c1, awake_call]; rfl)) | (apply run_regionN (by decide); (simp only [go_sem, j0, j5, j9, c1, awake_call]; rfl)) | (refine run_cond_t ?_ ?_; · simp only [go_sem]) | (refine run_cond_f ?_ ?_; · simp only [go_sem]))
    exact end_nil (q_ret1 _ (by simp only [go_sem]) rfl (take_app _ _))
end Go.Proofs.YtdmfhdnpakgkpaaDoor.Sh

