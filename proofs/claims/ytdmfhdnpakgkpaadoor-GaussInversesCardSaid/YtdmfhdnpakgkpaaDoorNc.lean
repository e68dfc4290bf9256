/- Numbers of the chapter: the program's quotient and rest, and what they are bounded by. -/
import Derived.Test.YtdmfhdnpakgkpaaDoorNb
set_option linter.all false
namespace Go.Proofs.YtdmfhdnpakgkpaaDoor.Sh
open Go
set_option maxRecDepth 100000

theorem abs_sq (a : Int) : (a.natAbs : Int) ≤ a * a := by
  rw [← Int.natAbs_mul_self]
  exact Int.ofNat_le.2 (Nat.le_mul_self _)
theorem nrm_pos {y : Int × Int} (h : y ≠ (0, 0)) : 1 ≤ nrm y := by
  have s1 := abs_sq y.1
  have s2 := abs_sq y.2
  have : ¬ (y.1 = 0 ∧ y.2 = 0) := fun e => h (Prod.ext e.1 e.2)
  unfold nrm
  omega
/-- a product with a number is within the bound times its norm -/
theorem mul_nrm {x y : Int × Int} {X : Int} (hx : Bd X x) : -(X * nrm y) ≤ (mulP x (conjP y)).1 ∧ (mulP x (conjP y)).1 ≤ X * nrm y ∧ -(X * nrm y) ≤ (mulP x (conjP y)).2 ∧ (mulP x (conjP y)).2 ≤ X * nrm y := by
  obtain ⟨p1, p2, p3, p4⟩ := hx
  have hX : 0 ≤ X := by omega
  have a1 := Int.mul_le_mul_of_nonneg_left (abs_sq y.1) hX
  have a2 := Int.mul_le_mul_of_nonneg_left (abs_sq y.2) hX
  have m1 := mul_bd p1 p2 (C := y.1.natAbs) (c := y.1) (by omega) (by omega)
  have m2 := mul_bd p3 p4 (C := y.2.natAbs) (c := -y.2) (by omega) (by omega)
  have m3 := mul_bd p1 p2 (C := y.2.natAbs) (c := -y.2) (by omega) (by omega)
  have m4 := mul_bd p3 p4 (C := y.1.natAbs) (c := y.1) (by omega) (by omega)
  have e : X * nrm y = X * (y.1 * y.1) + X * (y.2 * y.2) := by unfold nrm; rw [Int.mul_add]
  unfold mulP conjP
  dsimp only
  omega
theorem near_bd {t n X : Int} (hn : 1 ≤ n) (h1 : -(X * n) ≤ t) (h2 : t ≤ X * n) : -X ≤ (2 * t + n) / (2 * n) ∧ (2 * t + n) / (2 * n) ≤ X := by
  have hn2 : 0 < 2 * n := by omega
  constructor
  · rw [Int.le_ediv_iff_mul_le hn2]
    have : -X * (2 * n) = -(2 * (X * n)) := by grind
    omega
  · have : (2 * t + n) / (2 * n) < X + 1 := by
      rw [Int.ediv_lt_iff_lt_mul hn2]
      have : (X + 1) * (2 * n) = 2 * (X * n) + 2 * n := by grind
      omega
    omega
theorem quo_bd {x y : Int × Int} {X : Int} (hx : Bd X x) (hy : 1 ≤ nrm y) : Bd X (quoP x y) := by
  obtain ⟨t1, t2, t3, t4⟩ := mul_nrm (y := y) hx
  have a := near_bd hy t1 t2
  have b := near_bd hy t3 t4
  exact ⟨a.1, a.2, b.1, b.2⟩
/-- the norm is multiplicative -/
theorem nrm_mul (p q : Int × Int) : nrm (mulP p q) = nrm p * nrm q := by
  unfold nrm mulP; dsimp only; grind
theorem nrm_conj (p : Int × Int) : nrm (conjP p) = nrm p := by unfold nrm conjP; dsimp only; grind
/-- the quotient is nearest: each part of the rest times the conjugate is at most half of the norm -/
theorem near {t n : Int} (hn : 1 ≤ n) : -n ≤ 2 * (t - n * ((2 * t + n) / (2 * n))) ∧ 2 * (t - n * ((2 * t + n) / (2 * n))) ≤ n := by
  have hn2 : 0 < 2 * n := by omega
  have h1 := Int.mul_ediv_self_le (x := 2 * t + n) (k := 2 * n) (by omega)
  have h2 := Int.lt_mul_ediv_self_add (x := 2 * t + n) hn2
  generalize (2 * t + n) / (2 * n) = q at *
  have e : 2 * n * q = 2 * (n * q) := by grind
  omega
/-- the norm of a rest is at most half of that of the divisor -/
theorem rest_nrm {x y : Int × Int} (hy : 1 ≤ nrm y) : 2 * nrm (restP x y) ≤ nrm y := by
  have a := near (t := (mulP x (conjP y)).1) hy
  have b := near (t := (mulP x (conjP y)).2) hy
  have e : mulP (restP x y) (conjP y) = ((mulP x (conjP y)).1 - nrm y * (quoP x y).1, (mulP x (conjP y)).2 - nrm y * (quoP x y).2) := by
    unfold restP
    generalize quoP x y = q
    unfold mulP conjP subP nrm
    dsimp only
    refine Prod.ext ?_ ?_
    · dsimp only; grind
    · dsimp only; grind
  have k := nrm_mul (restP x y) (conjP y)
  rw [nrm_conj, e] at k
  unfold quoP at k
  dsimp only at k
  generalize (mulP x (conjP y)).1 - nrm y * ((2 * (mulP x (conjP y)).1 + nrm y) / (2 * nrm y)) = u at *
  generalize (mulP x (conjP y)).2 - nrm y * ((2 * (mulP x (conjP y)).2 + nrm y) / (2 * nrm y)) = v at *
  have c1 := mul_bd (a := 2 * u) (c := 2 * u) (A := nrm y) (C := nrm y) (by omega) (by omega) (by omega) (by omega)
  have c2 := mul_bd (a := 2 * v) (c := 2 * v) (A := nrm y) (C := nrm y) (by omega) (by omega) (by omega) (by omega)
  have c3 : 4 * (nrm (restP x y) * nrm y) ≤ 2 * (nrm y * nrm y) := by
    rw [← k]
    unfold nrm
    dsimp only
    have e1 : 2 * u * (2 * u) = 4 * (u * u) := by grind
    have e2 : 2 * v * (2 * v) = 4 * (v * v) := by grind
    unfold nrm at c1 c2
    omega
  have c4 : (2 * nrm (restP x y)) * nrm y ≤ nrm y * nrm y := by
    have : (2 * nrm (restP x y)) * nrm y = 2 * (nrm (restP x y) * nrm y) := by grind
    omega
  exact Int.le_of_mul_le_mul_right c4 (by omega)
/-- each part is at most the norm's root -/
theorem part_bd {p : Int × Int} {A : Int} (hA : 0 ≤ A) (h : nrm p < (A + 1) * (A + 1)) : Bd A p := by
  have key : ∀ a : Int, a * a < (A + 1) * (A + 1) → -A ≤ a ∧ a ≤ A := by
    intro a ha
    have h1 : a.natAbs < (A + 1).toNat := by
      by_cases e : a.natAbs < (A + 1).toNat
      · exact e
      · exfalso
        have := Nat.mul_le_mul (show (A + 1).toNat ≤ a.natAbs by omega) (show (A + 1).toNat ≤ a.natAbs by omega)
        rw [← Int.natAbs_mul] at this
        have e2 : (((A + 1).toNat * (A + 1).toNat : Nat) : Int) = (A + 1) * (A + 1) := by
          rw [Int.natCast_mul, Int.toNat_of_nonneg (by omega)]
        have := sqn a
        omega
    omega
  have s1 := sqn p.1
  have s2 := sqn p.2
  unfold nrm at h
  have k1 := key p.1 (by omega)
  have k2 := key p.2 (by omega)
  exact ⟨k1.1, k1.2, k2.1, k2.2⟩
theorem nrm_le {p : Int × Int} {A : Int} (hp : Bd A p) : nrm p ≤ 2 * (A * A) := by
  obtain ⟨p1, p2, p3, p4⟩ := hp
  have m1 := mul_bd p1 p2 p1 p2
  have m2 := mul_bd p3 p4 p3 p4
  unfold nrm; omega
theorem rest_bd {x y : Int × Int} {Y : Int} (hy : 1 ≤ nrm y) (hY : Bd Y y) : Bd Y (restP x y) := by
  have h1 := rest_nrm (x := x) hy
  have h2 := nrm_le hY
  have hY0 : 0 ≤ Y := by obtain ⟨a, b, _⟩ := hY; omega
  refine part_bd hY0 ?_
  have : (Y + 1) * (Y + 1) = Y * Y + 2 * Y + 1 := by grind
  omega

theorem q_cell2 {base : Nat} {i j n m : Nat} {ρ : Reg} {h h0 : SHeap} (l1 l2 : List Value) (hv : loadS h (some n) (ρ i) = some (.agg l1.toArray)) (hw : loadS h (some m) (ρ j) = some (.agg l2.toArray)) (hf1 : l1.all (flat 1) = true) (hf2 : l2.all (flat 1) = true)
    (hp : ∃ a, ρ i = .pointer a) (hq : ∃ a, ρ j = .pointer a) (ht : h.take base = h0) : callQ [.cell (some n) i, .cell (some m) j] base (.tuple #[.agg l1.toArray, .agg l2.toArray], h0, []) .ret ρ [] h [] := by
  obtain ⟨a, ha⟩ := hp
  obtain ⟨b, hb⟩ := hq
  refine ⟨rfl, ?_⟩
  show opn (ρ i) fun a => ∃ v, loadS h (some n) a = some v ∧ opn v fun v' => opn (ρ j) fun b => ∃ w, loadS h (some m) b = some w ∧ opn w fun w' => endW base h [] (.tuple #[.agg l1.toArray, .agg l2.toArray], h0, []) [v', w']
  rw [ha] at hv ⊢
  rw [hb] at hw ⊢
  refine ⟨_, hv, ?_⟩
  have g1 : flat 2 (.agg l1.toArray) = true := by simpa [flat] using hf1
  have g2 : flat 2 (.agg l2.toArray) = true := by simpa [flat] using hf2
  refine opn_of (n := 2) g1 ?_
  refine ⟨_, hw, ?_⟩
  exact opn_of (n := 2) g2 (end_flat (l := [.agg l1.toArray, .agg l2.toArray]) (by simpa [oneV, flat] using ⟨by simpa using hf1, by simpa using hf2⟩) ht)

/-- quo -/
theorem quo60 {x y : Int × Int} {X Y : Int} (hx : Bd X x) (hy : Bd Y y) (hXY : X * Y ≤ 1125899906842624) (hX : X ≤ 1125899906842624) (hY : Y * Y ≤ 1125899906842624) (h0 : y ≠ (0, 0)) (h : SHeap) :
    M.call 60 [.agg #[.int .i64 x.1, .int .i64 x.2], .agg #[.int .i64 y.1, .int .i64 y.2]] h = some (.tuple #[.agg #[.int .i64 (quoP x y).1, .int .i64 (quoP x y).2], .agg #[.int .i64 (restP x y).1, .int .i64 (restP x y).2]], h, []) := by
  have hn := nrm_pos h0
  have hY0 : 0 ≤ Y := by obtain ⟨a, b, _⟩ := hy; omega
  have hX0 : 0 ≤ X := by obtain ⟨a, b, _⟩ := hx; omega
  have hc : Bd Y (conjP y) := by unfold Bd conjP at *; dsimp only; omega
  have hYY : Y ≤ 1125899906842624 := by
    by_cases e : Y ≤ 1
    · omega
    · have := Int.mul_le_mul_of_nonneg_left (show (1 : Int) ≤ Y by omega) hY0
      omega
  have t78 := fun h => turned78 hy (by omega) h
  have t65 := fun h => times65 hx hc (by omega) h
  have tb := mulP_bd hx hc
  have t59 := fun h => norm59 hy (by omega) h
  have nb := nrm_le hy
  have hq := quo_bd hx hn
  obtain ⟨b1, b2, b3, b4⟩ := tb
  have w1 : IntKind.i64.wrap (2 * (mulP x (conjP y)).1) = 2 * (mulP x (conjP y)).1 := wrap64 (by omega) (by omega)
  have w2 : IntKind.i64.wrap (2 * (mulP x (conjP y)).2) = 2 * (mulP x (conjP y)).2 := wrap64 (by omega) (by omega)
  have w3 : IntKind.i64.wrap (2 * (mulP x (conjP y)).1 + nrm y) = 2 * (mulP x (conjP y)).1 + nrm y := wrap64 (by omega) (by omega)
  have w4 : IntKind.i64.wrap (2 * (mulP x (conjP y)).2 + nrm y) = 2 * (mulP x (conjP y)).2 + nrm y := wrap64 (by omega) (by omega)
  have w5 : IntKind.i64.wrap (2 * nrm y) = 2 * nrm y := wrap64 (by omega) (by omega)
  have f1 := fun h => floor80 (a := 2 * (mulP x (conjP y)).1 + nrm y) (b := 2 * nrm y) (A := 4611686018427387904) (by omega) (by omega) (by omega) (by omega) h
  have f2 := fun h => floor80 (a := 2 * (mulP x (conjP y)).2 + nrm y) (b := 2 * nrm y) (A := 4611686018427387904) (by omega) (by omega) (by omega) (by omega) h
  have e1 : (2 * (mulP x (conjP y)).1 + nrm y) / (2 * nrm y) = (quoP x y).1 := rfl
  have e2 : (2 * (mulP x (conjP y)).2 + nrm y) / (2 * nrm y) = (quoP x y).2 := rfl
  rw [e1] at f1
  rw [e2] at f2
  have t65' := fun h => times65 hq hy (by omega) h
  have t79 := fun h => minus79 hx (mulP_bd hq hy) (by omega) h
  have e3 : subP x (mulP (quoP x y) y) = restP x y := rfl
  rw [e3] at t79
  refine call_run sf60 rfl rfl rfl ?_
  unfold sf60
  repeat (first | apply run_seq | apply run_block | apply end_seq | apply end_blk_hit | apply end_blk_miss rfl | apply end_blk | apply end_seq_exit | apply end_seq_ret | apply end_blk_ret | apply run_skip | apply run_ret | apply run_exit | (apply run_region (by decide); (simp (maxSteps := 9999999) only [go_sem, argR, t78, t65, t59, w1, w2, w3, w4, w5, f1, f2, t65', t79]; rfl)) | (apply run_regionN (by decide); (simp (maxSteps := 9999999) only [go_sem, argR, t78, t65, t59, w1, w2, w3, w4, w5, f1, f2, t65', t79]; rfl)) | (refine run_cond_t ?_ ?_; · simp only [go_sem]) | (refine run_cond_f ?_ ?_; · simp only [go_sem]))
  exact end_nil (q_cell2 [.int .i64 (quoP x y).1, .int .i64 (quoP x y).2] [.int .i64 (restP x y).1, .int .i64 (restP x y).2] (by simp (maxSteps := 9999999) only [go_sem]) (by simp (maxSteps := 9999999) only [go_sem]) rfl rfl ⟨_, by simp (maxSteps := 9999999) only [go_sem]; rfl⟩ ⟨_, by simp (maxSteps := 9999999) only [go_sem]; rfl⟩ (take_app _ _))
end Go.Proofs.YtdmfhdnpakgkpaaDoor.Sh

