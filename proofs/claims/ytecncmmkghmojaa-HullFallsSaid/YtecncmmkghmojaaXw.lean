/- Lowest of the program and of the document; the law of the rolls. -/
import Derived.Test.YtecncmmkghmojaaXv
set_option linter.all false
namespace Go.Proofs.Ytecncmmkghmojaa.Sh
open Go Geo
set_option maxRecDepth 100000

/-- the leans in lowest terms, compared -/
theorem low_cmp {a b c d : Int} (hb : 0 < b) (hd : 0 < d) : decide ((a.tdiv (Int.gcd a b)) * (d.tdiv (Int.gcd c d)) < (c.tdiv (Int.gcd c d)) * (b.tdiv (Int.gcd a b))) = decide (a * d < c * b) := by
  have g1 : 0 < (Int.gcd a b : Int) := by
    have : Int.gcd a b ≠ 0 := fun e => by have := Int.eq_zero_of_gcd_eq_zero_right e; omega
    omega
  have g2 : 0 < (Int.gcd c d : Int) := by
    have : Int.gcd c d ≠ 0 := fun e => by have := Int.eq_zero_of_gcd_eq_zero_right e; omega
    omega
  have e1 : (Int.gcd a b : Int) * a.tdiv (Int.gcd a b) = a := Int.mul_tdiv_cancel' (Int.gcd_dvd_left ..)
  have e2 : (Int.gcd a b : Int) * b.tdiv (Int.gcd a b) = b := Int.mul_tdiv_cancel' (Int.gcd_dvd_right ..)
  have e3 : (Int.gcd c d : Int) * c.tdiv (Int.gcd c d) = c := Int.mul_tdiv_cancel' (Int.gcd_dvd_left ..)
  have e4 : (Int.gcd c d : Int) * d.tdiv (Int.gcd c d) = d := Int.mul_tdiv_cancel' (Int.gcd_dvd_right ..)
  generalize (Int.gcd a b : Int) = g at *
  generalize (Int.gcd c d : Int) = k at *
  generalize a.tdiv g = A at *
  generalize b.tdiv g = B at *
  generalize c.tdiv k = C at *
  generalize d.tdiv k = D at *
  have f1 : a * d = g * k * (A * D) := by rw [← e1, ← e4]; grind
  have f2 : c * b = g * k * (C * B) := by rw [← e3, ← e2]; grind
  have hgk : 0 < g * k := Int.mul_pos g1 g2
  rw [f1, f2]
  by_cases h : A * D < C * B
  · rw [decide_eq_true h, decide_eq_true (Int.mul_lt_mul_of_pos_left h hgk)]
  · rw [decide_eq_false h, decide_eq_false]
    intro h2
    exact h (Int.lt_of_mul_lt_mul_left h2 (by omega))

theorem tdiv_pos' {a : Int} {g : Nat} (ha : 0 < a) (hg : (g : Int) ∣ a) : 0 < a.tdiv g := by
  have e := Int.mul_tdiv_cancel' hg
  have : 0 < (g : Int) := by
    rcases Nat.eq_zero_or_pos g with z | z
    · subst z; simp at hg; omega
    · omega
  exact pos_of_mul this (by omega)

theorem lean_low {l : List (Int × Int)} (T : Tame l) {i : Nat} (hi : i < l.length) : 0 < (lnA l i).tdiv (lnG l i) ∧ (lnA l i).tdiv (lnG l i) ≤ 943718400000000 ∧ 0 < (lnB l i).tdiv (lnG l i) ∧ (lnB l i).tdiv (lnG l i) ≤ 2654208000000 := by
  have b := ln_bounds T hi
  have h1 := tdiv_pos' b.1 (Int.gcd_dvd_left (lnA l i) (lnB l i))
  have h2 := tdiv_pos' b.2.2.1 (Int.gcd_dvd_right (lnA l i) (lnB l i))
  have h3 := tdiv_le (lnA l i) (lnG l i) 943718400000000 (by omega)
  have h4 := tdiv_le (lnB l i) (lnG l i) 2654208000000 (by omega)
  unfold lnG at *
  omega

/-- Less upon leans -/
theorem lessLn {l : List (Int × Int)} (T : Tame l) {i j : Nat} (hi : i < l.length) (hj : j < l.length) (h : SHeap) :
    M.call 31 [.agg #[.int .i64 ((lnA l i).tdiv (lnG l i)), .int .i64 ((lnB l i).tdiv (lnG l i))], .agg #[.int .i64 ((lnA l j).tdiv (lnG l j)), .int .i64 ((lnB l j).tdiv (lnG l j))]] h = some (.bool (decide (lnLt l i j)), h, []) := by
  have b1 := ln_bounds T hi
  have b2 := ln_bounds T hj
  have c1 := lean_low T hi
  have c2 := lean_low T hj
  rw [less31 _ _ _ _ _ (Nat.le_refl _) (by omega) (by omega) (by omega) (by omega) (by omega) (by omega) (by omega) (by omega) h]
  have := low_cmp (a := lnA l i) (c := lnA l j) b1.2.2.1 b2.2.2.1
  unfold lnG
  rw [this]
  have e : (lnA l i * lnB l j < lnA l j * lnB l i) ↔ lnLt l i j := by
    unfold lnLt lnA lnB
    have e1 : offZ l i * offZ l i * (mD l * mD l * lenZ l j) = mD l * mD l * (offZ l i * offZ l i * lenZ l j) := by grind
    have e2 : offZ l j * offZ l j * (mD l * mD l * lenZ l i) = mD l * mD l * (offZ l j * offZ l j * lenZ l i) := by grind
    rw [e1, e2]
    constructor
    · intro k; exact Int.lt_of_mul_lt_mul_left k (by omega)
    · intro k; exact Int.mul_lt_mul_of_pos_left k (by omega)
  by_cases k : lnLt l i j
  · rw [decide_eq_true k, decide_eq_true (e.2 k)]
  · rw [decide_eq_false k, decide_eq_false (fun z => k (e.1 z))]

theorem side_ok (z : Int) {n : Nat} (h0 : 0 < n) (h1 : n ≤ 1000) : ∃ i : Nat, i < n ∧ IntKind.i64.wrap ((IntKind.u64.wrap z).tmod (IntKind.u64.wrap n)) = (i : Int) ∧ IntKind.u64.wrap (n : Int) ≠ 0 := by
  have e : IntKind.u64.wrap (n : Int) = n := by
    simp [IntKind.wrap, IntKind.signed, IntKind.bits]; omega
  have hm := u64_mod z n (by omega) (by omega)
  rw [e]
  refine ⟨((IntKind.u64.wrap z).tmod n).toNat, by omega, ?_, by omega⟩
  rw [wrap64 (by omega) (by omega)]; omega

end Go.Proofs.Ytecncmmkghmojaa.Sh

