/- Lean of the document, and comparing leans. -/
import Derived.Test.YtecncmmkghmojaaXs
set_option linter.all false
namespace Go.Proofs.Ytecncmmkghmojaa.Sh
open Go Geo
set_option maxRecDepth 100000

theorem low_nat {t D s : Nat} (ht : 0 < t) (hD : 0 < D) (hs : 0 < s) :
    (t * t) / Nat.gcd (t * t) (D * D * s) = ((t / Nat.gcd t D) * (t / Nat.gcd t D)) / Nat.gcd ((t / Nat.gcd t D) * (t / Nat.gcd t D)) s ∧
    (D * D * s) / Nat.gcd (t * t) (D * D * s) = s / Nat.gcd ((t / Nat.gcd t D) * (t / Nat.gcd t D)) s * (D / Nat.gcd t D) * (D / Nat.gcd t D) := by
  have hg : 0 < Nat.gcd t D := Nat.gcd_pos_of_pos_left _ ht
  have e1 : Nat.gcd t D * (t / Nat.gcd t D) = t := Nat.mul_div_cancel' (Nat.gcd_dvd_left t D)
  have e2 : Nat.gcd t D * (D / Nat.gcd t D) = D := Nat.mul_div_cancel' (Nat.gcd_dvd_right t D)
  have hc : Nat.Coprime (t / Nat.gcd t D) (D / Nat.gcd t D) := Nat.coprime_div_gcd_div_gcd hg
  generalize Nat.gcd t D = g at *
  generalize t / g = u at *
  generalize D / g = d at *
  have hc2 : Nat.Coprime (u * u) (d * d) := Nat.Coprime.mul_left (Nat.Coprime.mul_right hc hc) (Nat.Coprime.mul_right hc hc)
  have eG : Nat.gcd (t * t) (D * D * s) = g * g * Nat.gcd (u * u) s := by
    have a1 : t * t = g * g * (u * u) := by rw [← e1]; grind
    have a2 : D * D * s = g * g * (d * d * s) := by rw [← e2]; grind
    rw [a1, a2, Nat.gcd_mul_left]
    congr 1
    exact Nat.Coprime.gcd_mul_left_cancel_right s hc2.symm
  have hh : 0 < Nat.gcd (u * u) s := Nat.gcd_pos_of_pos_right _ hs
  have k1 : Nat.gcd (u * u) s * (u * u / Nat.gcd (u * u) s) = u * u := Nat.mul_div_cancel' (Nat.gcd_dvd_left _ _)
  have k2 : Nat.gcd (u * u) s * (s / Nat.gcd (u * u) s) = s := Nat.mul_div_cancel' (Nat.gcd_dvd_right _ _)
  rw [eG]
  generalize Nat.gcd (u * u) s = k at *
  have hgk : 0 < g * g * k := Nat.mul_pos (Nat.mul_pos hg hg) hh
  constructor
  · have : t * t = g * g * k * (u * u / k) := by
      have a1 : t * t = g * g * (u * u) := by rw [← e1]; grind
      rw [a1, Nat.mul_assoc (g * g) k, k1]
    rw [this, Nat.mul_div_cancel_left _ hgk]
  · have : D * D * s = g * g * k * (s / k * d * d) := by
      have a2 : D * D * s = g * g * (d * d * s) := by rw [← e2]; grind
      have a3 : k * (s / k * d * d) = d * d * s := by
        calc k * (s / k * d * d) = (k * (s / k)) * (d * d) := by grind
          _ = s * (d * d) := by rw [k2]
          _ = d * d * s := by grind
      rw [a2, ← a3]; grind
    rw [this, Nat.mul_div_cancel_left _ hgk]

/-- the two ways to lowest terms -/
theorem low_int {t D s : Int} (ht : 0 < t) (hD : 0 < D) (hs : 0 < s) :
    (t * t).tdiv (Int.gcd (t * t) (D * D * s)) = ((t.tdiv (Int.gcd t D)) * (t.tdiv (Int.gcd t D))).tdiv (Int.gcd ((t.tdiv (Int.gcd t D)) * (t.tdiv (Int.gcd t D))) s) ∧
    (D * D * s).tdiv (Int.gcd (t * t) (D * D * s)) = s.tdiv (Int.gcd ((t.tdiv (Int.gcd t D)) * (t.tdiv (Int.gcd t D))) s) * (D.tdiv (Int.gcd t D)) * (D.tdiv (Int.gcd t D)) := by
  obtain ⟨t, rfl⟩ := Int.eq_ofNat_of_zero_le (Int.le_of_lt ht)
  obtain ⟨D, rfl⟩ := Int.eq_ofNat_of_zero_le (Int.le_of_lt hD)
  obtain ⟨s, rfl⟩ := Int.eq_ofNat_of_zero_le (Int.le_of_lt hs)
  have := low_nat (t := t) (D := D) (s := s) (by omega) (by omega) (by omega)
  obtain ⟨h1, h2⟩ := this
  simp only [← Int.natCast_mul, Int.gcd_natCast_natCast, ← Int.ofNat_tdiv]
  exact ⟨by exact_mod_cast h1, by exact_mod_cast h2⟩

theorem lean_wraps {X Y D : Int} (F : Fine X Y D) {p q : Int × Int} (hp : inR p) (hq : inR q) :
    IntKind.i64.wrap (q.1 - p.1) = q.1 - p.1 ∧ IntKind.i64.wrap (q.2 - p.2) = q.2 - p.2 ∧ IntKind.i64.wrap (p.1 * D) = p.1 * D ∧ IntKind.i64.wrap (p.2 * D) = p.2 * D ∧
    IntKind.i64.wrap (X - p.1 * D) = X - p.1 * D ∧ IntKind.i64.wrap (Y - p.2 * D) = Y - p.2 * D ∧
    IntKind.i64.wrap ((q.1 - p.1) * (Y - p.2 * D)) = (q.1 - p.1) * (Y - p.2 * D) ∧ IntKind.i64.wrap ((q.2 - p.2) * (X - p.1 * D)) = (q.2 - p.2) * (X - p.1 * D) ∧
    IntKind.i64.wrap ((q.1 - p.1) * (Y - p.2 * D) - (q.2 - p.2) * (X - p.1 * D)) = (q.1 - p.1) * (Y - p.2 * D) - (q.2 - p.2) * (X - p.1 * D) ∧
    IntKind.i64.wrap ((q.1 - p.1) * (q.1 - p.1)) = (q.1 - p.1) * (q.1 - p.1) ∧ IntKind.i64.wrap ((q.2 - p.2) * (q.2 - p.2)) = (q.2 - p.2) * (q.2 - p.2) ∧
    IntKind.i64.wrap ((q.1 - p.1) * (q.1 - p.1) + (q.2 - p.2) * (q.2 - p.2)) = (q.1 - p.1) * (q.1 - p.1) + (q.2 - p.2) * (q.2 - p.2) := by
  have hm := inR_mul F.d hp
  rw [Int.mul_comm D p.1, Int.mul_comm D p.2] at hm
  have hx := F.x
  have hy := F.y
  obtain ⟨a1, a2, a3, a4⟩ := hp
  obtain ⟨b1, b2, b3, b4⟩ := hq
  generalize p.1 * D = A at *
  generalize p.2 * D = B at *
  have n1 : ((q.1 - p.1) * (Y - B)).natAbs ≤ 40 * 1000000 := mul_bound (by omega) (by omega)
  have n2 : ((q.2 - p.2) * (X - A)).natAbs ≤ 40 * 1000000 := mul_bound (by omega) (by omega)
  have n3 : ((q.1 - p.1) * (q.1 - p.1)).natAbs ≤ 40 * 40 := mul_bound (by omega) (by omega)
  have n4 : ((q.2 - p.2) * (q.2 - p.2)).natAbs ≤ 40 * 40 := mul_bound (by omega) (by omega)
  generalize (q.1 - p.1) * (Y - B) = M1 at *
  generalize (q.2 - p.2) * (X - A) = M2 at *
  generalize (q.1 - p.1) * (q.1 - p.1) = M3 at *
  generalize (q.2 - p.2) * (q.2 - p.2) = M4 at *
  exact ⟨wrap_abs (by omega), wrap_abs (by omega), wrap_abs (by omega), wrap_abs (by omega), wrap_abs (by omega), wrap_abs (by omega), wrap_abs (by omega), wrap_abs (by omega), wrap_abs (by omega), wrap_abs (by omega), wrap_abs (by omega), wrap_abs (by omega)⟩

/-- Lean of the document -/
theorem leanR44 {h : SHeap} {v : Value} {l : List (Int × Int)} (hv : PS h v l) (T : Tame l) {i : Nat} (hi : i < l.length) :
    M.call 44 [v, .int .i64 i] h = some (.agg #[.int .i64 ((lnA l i).tdiv (lnG l i)), .int .i64 ((lnB l i).tdiv (lnG l i))], h, []) := by
  have c22 := middleR22 (hv.app [SO.cells [.int .i64 0, .int .i64 0] 34 true 0 []]) T
  have c83 := endsR83 (hv.app [SO.cells [.int .i64 0, .int .i64 0] 34 true 0 [], .cells [.int .i64 (mX l), .int .i64 (mY l), .int .i64 (mD l)] 27 true 0 []]) T.hi hi
  have hp : inR (cn l i) := inR_getD T.inr i
  have hq : inR (cn l ((i + 1) % l.length)) := inR_getD T.inr ((i + 1) % l.length)
  have F := T.fine
  have lz := lenZ_le T i
  have lp := lenZ_pos T hi
  have op := T.off_pos hi
  have ol := T.off_le hi
  have dp := mD_pos T
  have bd := ln_bounds T hi
  have low := low_int op dp lp
  have eA : offZ l i * offZ l i = lnA l i := rfl
  have eB : mD l * mD l * lenZ l i = lnB l i := rfl
  have eG : Int.gcd (lnA l i) (lnB l i) = lnG l i := rfl
  rw [eA, eB, eG] at low
  have hx := F.x
  have hy := F.y
  have hd := F.d
  have hm := inR_mul hd hp
  rw [Int.mul_comm (mD l) (cn l i).1, Int.mul_comm (mD l) (cn l i).2] at hm
  have so : offZ l i = ((cn l ((i + 1) % l.length)).1 - (cn l i).1) * (mY l - (cn l i).2 * mD l) - ((cn l ((i + 1) % l.length)).2 - (cn l i).2) * (mX l - (cn l i).1 * mD l) := by
    unfold offZ; simp only [crs, sbt]; grind
  have sl : lenZ l i = ((cn l ((i + 1) % l.length)).1 - (cn l i).1) * ((cn l ((i + 1) % l.length)).1 - (cn l i).1) + ((cn l ((i + 1) % l.length)).2 - (cn l i).2) * ((cn l ((i + 1) % l.length)).2 - (cn l i).2) := rfl
  have hg0 : Int.gcd (offZ l i) (mD l) ≠ 0 := fun e => by have := Int.eq_zero_of_gcd_eq_zero_right e; omega
  have c64 := fun e => gcdR (offZ l i) (mD l) e (by omega) (by omega)
  have tb := tdiv_le (offZ l i) (Int.gcd (offZ l i) (mD l)) 30720000 (by omega)
  have db := tdiv_le (mD l) (Int.gcd (offZ l i) (mD l)) 28800 hd
  have hh0 : Int.gcd ((offZ l i).tdiv (Int.gcd (offZ l i) (mD l)) * (offZ l i).tdiv (Int.gcd (offZ l i) (mD l))) (lenZ l i) ≠ 0 := fun e => by have := Int.eq_zero_of_gcd_eq_zero_right e; omega
  generalize mX l = X at *
  generalize mY l = Y at *
  generalize mD l = D at *
  generalize offZ l i = O at *
  generalize lenZ l i = N at *
  generalize (Int.gcd O D : Nat) = g at *
  generalize eO : O.tdiv (g : Int) = t at *
  generalize eD : D.tdiv (g : Int) = d at *
  have tt : (t * t).natAbs ≤ 30720000 * 30720000 := mul_bound tb tb
  have c64' := fun e => gcdR (t * t) N e (by omega) (by omega)
  generalize (Int.gcd (t * t) N : Nat) = k at *
  have wt : IntKind.i64.wrap (t * t) = t * t := wrap_abs (by omega)
  have nb := tdiv_le N k 3200 (by omega)
  have q1 := tdiv_le (t * t) k _ tt
  have wq1 : IntKind.i64.wrap ((t * t).tdiv k) = (t * t).tdiv k := wrap_abs (by omega)
  have wq2 : IntKind.i64.wrap (N.tdiv k) = N.tdiv k := wrap_abs (by omega)
  have m1 : (N.tdiv k * d).natAbs ≤ 3200 * 28800 := mul_bound nb db
  have m2 : (N.tdiv k * d * d).natAbs ≤ 3200 * 28800 * 28800 := mul_bound m1 db
  have wq3 : IntKind.i64.wrap (N.tdiv k * d) = N.tdiv k * d := wrap_abs (by omega)
  have wq4 : IntKind.i64.wrap (N.tdiv k * d * d) = N.tdiv k * d * d := wrap_abs (by omega)
  have wO : IntKind.i64.wrap (O.tdiv (g : Int)) = t := by rw [eO]; exact wrap_abs (by omega)
  have wD : IntKind.i64.wrap (D.tdiv (g : Int)) = d := by rw [eD]; exact wrap_abs (by omega)
  have hg0' : ¬ ((g : Int) = 0) := by omega
  have hk0' : ¬ ((k : Int) = 0) := by omega
  generalize (i + 1) % l.length = a at *
  generalize cn l i = p at *
  generalize cn l a = q at *
  have fp := inR_mul hd hp
  obtain ⟨w1, w2, w3, w4, w5, w6, w7, w8, w9', w10, w11, w12'⟩ := lean_wraps F hp hq
  have w9 : IntKind.i64.wrap ((q.1 - p.1) * (Y - p.2 * D) - (q.2 - p.2) * (X - p.1 * D)) = O := by rw [w9', so]
  have w12 : IntKind.i64.wrap ((q.1 - p.1) * (q.1 - p.1) + (q.2 - p.2) * (q.2 - p.2)) = N := by rw [w12', sl]
  rw [low.1, low.2]
  obtain ⟨va, vc, rfl, -⟩ := hv
  refine call_run sf44 rfl rfl rfl ?_
  unfold sf44
  repeat (first | apply run_seq | apply run_block | apply end_seq | apply end_blk_hit | apply end_blk_miss rfl | apply end_blk | apply end_seq_exit | apply end_seq_ret | apply end_blk_ret | apply run_skip | apply run_ret | apply run_exit | (apply run_region (by decide); (simp only [go_sem, ↓reduceIte, Int.reduceAdd, Int.reduceEq, Int.reduceLE, Int.reduceLT, Int.reduceMul, Int.reduceNeg, Int.reduceSub, Int.reduceToNat, Nat.reduceAdd, Nat.reduceBEq, Nat.reduceEqDiff, Nat.reduceLT, Nat.reduceLeDiff, Nat.reduceMul, Nat.reduceSub, argR, c22, c83, w1, w2, w3, w4, w5, w6, w7, w8, w9, w10, w11, w12, c64, c64', wO, wD, wt, wq1, wq2, wq3, wq4, hg0', hk0']; rfl)) | (refine run_cond_t ?_ ?_; · simp only [go_sem, ↓reduceIte, Nat.reduceEqDiff]) | (refine run_cond_f ?_ ?_; · simp only [go_sem, ↓reduceIte, Nat.reduceEqDiff]))
  refine end_nil (q_cell [.int .i64 ((t * t).tdiv k), .int .i64 (N.tdiv k * d * d)] ?_ rfl ⟨some ⟨h.length, 0, none⟩, by simp only [go_sem, ↓reduceIte, Int.reduceAdd, Int.reduceEq, Int.reduceLE, Int.reduceLT, Int.reduceMul, Int.reduceNeg, Int.reduceSub, Int.reduceToNat, Nat.reduceAdd, Nat.reduceBEq, Nat.reduceEqDiff, Nat.reduceLT, Nat.reduceLeDiff, Nat.reduceMul, Nat.reduceSub]⟩ (take_app _ _))
  simp only [go_sem, ↓reduceIte, Int.reduceAdd, Int.reduceEq, Int.reduceLE, Int.reduceLT, Int.reduceMul, Int.reduceNeg, Int.reduceSub, Int.reduceToNat, Nat.reduceAdd, Nat.reduceBEq, Nat.reduceEqDiff, Nat.reduceLT, Nat.reduceLeDiff, Nat.reduceMul, Nat.reduceSub]

/-- Less of the document: which of two fractions is less -/
theorem less31 : ∀ (n : Nat) (a b c d : Int), b.natAbs + d.natAbs ≤ n → 0 ≤ a → 0 < b → 0 ≤ c → 0 < d → a ≤ 9223372036854775807 → b ≤ 9223372036854775807 → c ≤ 9223372036854775807 → d ≤ 9223372036854775807 →
    ∀ h, M.call 31 [.agg #[.int .i64 a, .int .i64 b], .agg #[.int .i64 c, .int .i64 d]] h = some (.bool (decide (a * d < c * b)), h, [])
  | 0, a, b, c, d, hn, _, hb, _, _, _, _, _, _ => by omega
  | n + 1, a, b, c, d, hn, ha, hb, hc, hd, la, lb, lc, ld => by
    intro h
    have hb0 : ¬ (b = 0) := by omega
    have hd0 : ¬ (d = 0) := by omega
    have w1 : IntKind.i64.wrap (a.tdiv b) = a.tdiv b := wrap_abs (tdiv_le _ _ _ (by omega))
    have w2 : IntKind.i64.wrap (c.tdiv d) = c.tdiv d := wrap_abs (tdiv_le _ _ _ (by omega))
    have ea : b * (a.tdiv b) + a.tmod b = a := Int.mul_tdiv_add_tmod a b
    have ec : d * (c.tdiv d) + c.tmod d = c := Int.mul_tdiv_add_tmod c d
    have pa := Int.tmod_nonneg b ha
    have pc := Int.tmod_nonneg d hc
    have qa := Int.tmod_lt_of_pos a hb
    have qc := Int.tmod_lt_of_pos c hd
    have ih : 0 < a.tmod b → 0 < c.tmod d → ∀ h, M.call 31 [.agg #[.int .i64 d, .int .i64 (c.tmod d)], .agg #[.int .i64 b, .int .i64 (a.tmod b)]] h = some (.bool (decide (d * a.tmod b < b * c.tmod d)), h, []) :=
      fun h1 h2 => less31 n d (c.tmod d) b (a.tmod b) (by omega) (by omega) h2 (by omega) h1 ld (by omega) lb (by omega)
    generalize hA : a.tdiv b = A at *
    generalize hC : c.tdiv d = C at *
    generalize hP : a.tmod b = p at *
    generalize hQ : c.tmod d = q at *
    have key : a * d < c * b ↔ (A < C ∨ (A = C ∧ p * d < q * b)) := by
      have f1 : a * d = b * d * A + p * d := by rw [← ea]; grind
      have f2 : c * b = b * d * C + q * b := by rw [← ec]; grind
      have f3 : p * d < b * d := Int.mul_lt_mul_of_pos_right qa hd
      have f4 : q * b < b * d := by rw [Int.mul_comm b d]; exact Int.mul_lt_mul_of_pos_right qc hb
      have f5 : 0 ≤ p * d := Int.mul_nonneg pa (by omega)
      have f6 : 0 ≤ q * b := Int.mul_nonneg pc (by omega)
      have f7 : 0 < b * d := Int.mul_pos hb hd
      rw [f1, f2]
      rcases Int.lt_trichotomy A C with hAC | hAC | hAC
      · have f8 : b * d * (A + 1) ≤ b * d * C := Int.mul_le_mul_of_nonneg_left (by omega) (by omega)
        rw [Int.mul_add, Int.mul_one] at f8
        constructor
        · intro _; exact .inl hAC
        · intro _; omega
      · subst hAC
        constructor
        · intro k; exact .inr ⟨rfl, by omega⟩
        · rintro (k | ⟨_, k⟩) <;> omega
      · have f8 : b * d * (C + 1) ≤ b * d * A := Int.mul_le_mul_of_nonneg_left (by omega) (by omega)
        rw [Int.mul_add, Int.mul_one] at f8
        constructor
        · intro k; omega
        · rintro (k | ⟨k, _⟩) <;> omega
    refine call_run sf31 rfl rfl rfl ?_
    unfold sf31
    by_cases hAC : A = C
    · subst hAC
      have key' : decide (a * d < c * b) = decide (p * d < q * b) := by
        by_cases k : p * d < q * b
        · rw [decide_eq_true k, decide_eq_true (key.2 (.inr ⟨rfl, k⟩))]
        · rw [decide_eq_false k, decide_eq_false (fun z => by rcases key.1 z with z | ⟨_, z⟩ <;> omega)]
      rw [key']
      by_cases hp : p = 0
      · have e : decide (p * d < q * b) = decide (p < q) := by
          subst hp
          rw [Int.zero_mul]
          by_cases hq : 0 < q
          · rw [decide_eq_true hq, decide_eq_true (Int.mul_pos hq hb)]
          · have : q = 0 := by omega
            subst this; simp
        rw [e]
        repeat (first | apply run_seq | apply run_block | apply end_seq | apply end_blk_hit | apply end_blk_miss rfl | apply end_blk | apply end_seq_exit | apply end_seq_ret | apply end_blk_ret | apply run_skip | apply run_ret | apply run_exit | (apply run_region (by decide); (simp only [go_sem, ↓reduceIte, Int.reduceAdd, Int.reduceEq, Int.reduceLE, Int.reduceLT, Int.reduceMul, Int.reduceNeg, Int.reduceSub, Int.reduceToNat, Nat.reduceAdd, Nat.reduceBEq, Nat.reduceEqDiff, Nat.reduceLT, Nat.reduceLeDiff, Nat.reduceMul, Nat.reduceSub, argR, hb0, hd0, hA, hC, hP, hQ, w1, w2, hp]; rfl)) | (refine run_cond_t ?_ ?_; · simp only [go_sem, ↓reduceIte, Nat.reduceEqDiff]) | (refine run_cond_f ?_ ?_; · simp only [go_sem, ↓reduceIte, Nat.reduceEqDiff]))
        exact end_nil (q_ret1 _ (by simp only [go_sem, ↓reduceIte, Int.reduceAdd, Int.reduceEq, Int.reduceLE, Int.reduceLT, Int.reduceMul, Int.reduceNeg, Int.reduceSub, Int.reduceToNat, Nat.reduceAdd, Nat.reduceBEq, Nat.reduceEqDiff, Nat.reduceLT, Nat.reduceLeDiff, Nat.reduceMul, Nat.reduceSub, hp]) rfl (take_app _ _))
      · by_cases hq : q = 0
        · have e : decide (p * d < q * b) = decide (p < q) := by
            subst hq
            rw [Int.zero_mul, decide_eq_false (show ¬ p * d < 0 from by have := Int.mul_nonneg pa (show 0 ≤ d by omega); omega), decide_eq_false (by omega)]
          rw [e]
          repeat (first | apply run_seq | apply run_block | apply end_seq | apply end_blk_hit | apply end_blk_miss rfl | apply end_blk | apply end_seq_exit | apply end_seq_ret | apply end_blk_ret | apply run_skip | apply run_ret | apply run_exit | (apply run_region (by decide); (simp only [go_sem, ↓reduceIte, Int.reduceAdd, Int.reduceEq, Int.reduceLE, Int.reduceLT, Int.reduceMul, Int.reduceNeg, Int.reduceSub, Int.reduceToNat, Nat.reduceAdd, Nat.reduceBEq, Nat.reduceEqDiff, Nat.reduceLT, Nat.reduceLeDiff, Nat.reduceMul, Nat.reduceSub, argR, hb0, hd0, hA, hC, hP, hQ, w1, w2, hp, hq]; rfl)) | (refine run_cond_t ?_ ?_; · simp only [go_sem, ↓reduceIte, Nat.reduceEqDiff]) | (refine run_cond_f ?_ ?_; · simp only [go_sem, ↓reduceIte, Nat.reduceEqDiff]))
          exact end_nil (q_ret1 _ (by simp only [go_sem, ↓reduceIte, Int.reduceAdd, Int.reduceEq, Int.reduceLE, Int.reduceLT, Int.reduceMul, Int.reduceNeg, Int.reduceSub, Int.reduceToNat, Nat.reduceAdd, Nat.reduceBEq, Nat.reduceEqDiff, Nat.reduceLT, Nat.reduceLeDiff, Nat.reduceMul, Nat.reduceSub, hp, hq]) rfl (take_app _ _))
        · have c31 := ih (by omega) (by omega)
          rw [Int.mul_comm d p, Int.mul_comm b q] at c31
          repeat (first | apply run_seq | apply run_block | apply end_seq | apply end_blk_hit | apply end_blk_miss rfl | apply end_blk | apply end_seq_exit | apply end_seq_ret | apply end_blk_ret | apply run_skip | apply run_ret | apply run_exit | (apply run_region (by decide); (simp only [go_sem, ↓reduceIte, Int.reduceAdd, Int.reduceEq, Int.reduceLE, Int.reduceLT, Int.reduceMul, Int.reduceNeg, Int.reduceSub, Int.reduceToNat, Nat.reduceAdd, Nat.reduceBEq, Nat.reduceEqDiff, Nat.reduceLT, Nat.reduceLeDiff, Nat.reduceMul, Nat.reduceSub, argR, hb0, hd0, hA, hC, hP, hQ, w1, w2, hp, hq, c31]; rfl)) | (refine run_cond_t ?_ ?_; · simp only [go_sem, ↓reduceIte, Nat.reduceEqDiff]) | (refine run_cond_f ?_ ?_; · simp only [go_sem, ↓reduceIte, Nat.reduceEqDiff]))
          exact end_nil (q_ret1 _ (by simp only [go_sem, ↓reduceIte, Int.reduceAdd, Int.reduceEq, Int.reduceLE, Int.reduceLT, Int.reduceMul, Int.reduceNeg, Int.reduceSub, Int.reduceToNat, Nat.reduceAdd, Nat.reduceBEq, Nat.reduceEqDiff, Nat.reduceLT, Nat.reduceLeDiff, Nat.reduceMul, Nat.reduceSub]) rfl (take_app _ _))
    · have key' : decide (a * d < c * b) = decide (A < C) := by
        by_cases k : A < C
        · rw [decide_eq_true k, decide_eq_true (key.2 (.inl k))]
        · rw [decide_eq_false k, decide_eq_false (fun z => by rcases key.1 z with z | ⟨z, _⟩ <;> omega)]
      rw [key']
      repeat (first | apply run_seq | apply run_block | apply end_seq | apply end_blk_hit | apply end_blk_miss rfl | apply end_blk | apply end_seq_exit | apply end_seq_ret | apply end_blk_ret | apply run_skip | apply run_ret | apply run_exit | (apply run_region (by decide); (simp only [go_sem, ↓reduceIte, Int.reduceAdd, Int.reduceEq, Int.reduceLE, Int.reduceLT, Int.reduceMul, Int.reduceNeg, Int.reduceSub, Int.reduceToNat, Nat.reduceAdd, Nat.reduceBEq, Nat.reduceEqDiff, Nat.reduceLT, Nat.reduceLeDiff, Nat.reduceMul, Nat.reduceSub, argR, hb0, hd0, hA, hC, hP, hQ, w1, w2, hAC]; rfl)) | (refine run_cond_t ?_ ?_; · simp only [go_sem, ↓reduceIte, Nat.reduceEqDiff]) | (refine run_cond_f ?_ ?_; · simp only [go_sem, ↓reduceIte, Nat.reduceEqDiff]))
      exact end_nil (q_ret1 _ (by simp only [go_sem, ↓reduceIte, Int.reduceAdd, Int.reduceEq, Int.reduceLE, Int.reduceLT, Int.reduceMul, Int.reduceNeg, Int.reduceSub, Int.reduceToNat, Nat.reduceAdd, Nat.reduceBEq, Nat.reduceEqDiff, Nat.reduceLT, Nat.reduceLeDiff, Nat.reduceMul, Nat.reduceSub]) rfl (take_app _ _))
end Go.Proofs.Ytecncmmkghmojaa.Sh

