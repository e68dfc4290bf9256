/- The middle lies inside a hull: plain laws. -/
import Derived.Test.YtecncmmkghmojaaXq
set_option linter.all false
namespace Go.Proofs.Ytecncmmkghmojaa.Sh
open Go Geo
set_option maxRecDepth 100000

/-- the cross product of the ends of side k, seen from p -/
def zf (l : List (Int × Int)) (p : Int × Int) (k : Nat) : Int := crs (sbt (cn l k) p) (sbt (cn l ((k + 1) % l.length)) p)
theorem area_zf (l : List (Int × Int)) (p : Int × Int) : areaZ l = S l.length (zf l p) := area_from l p

theorem midX_from (l : List (Int × Int)) (p : Int × Int) : midX l = S l.length (fun k => ((sbt (cn l k) p).1 + (sbt (cn l ((k + 1) % l.length)) p).1) * zf l p k) + 3 * p.1 * areaZ l := by
  have h1 : ∀ k, fX l k = (((sbt (cn l k) p).1 + (sbt (cn l ((k + 1) % l.length)) p).1) * zf l p k + (2 * p.1) * zf l p k) + (p.1 * cz l k + ((p.1 * ((cn l ((k + 1) % l.length)).1 * (cn l ((k + 1) % l.length)).2) - p.2 * ((cn l ((k + 1) % l.length)).1 * (cn l ((k + 1) % l.length)).1)) - (p.1 * ((cn l k).1 * (cn l k).2) - p.2 * ((cn l k).1 * (cn l k).1)))) := by
    intro k
    show ((cn l k).1 + (cn l ((k + 1) % l.length)).1) * crs (cn l k) (cn l ((k + 1) % l.length)) = _
    show _ = (((sbt (cn l k) p).1 + (sbt (cn l ((k + 1) % l.length)) p).1) * crs (sbt (cn l k) p) (sbt (cn l ((k + 1) % l.length)) p) + (2 * p.1) * crs (sbt (cn l k) p) (sbt (cn l ((k + 1) % l.length)) p)) + (p.1 * crs (cn l k) (cn l ((k + 1) % l.length)) + _)
    generalize cn l k = a
    generalize cn l ((k + 1) % l.length) = b
    simp only [crs, sbt]; grind
  unfold midX
  rw [S_congr (fun k _ => h1 k), S_add, S_add, S_add, S_mul, S_mul, S_sub, S_cyc l.length (fun k => p.1 * ((cn l k).1 * (cn l k).2) - p.2 * ((cn l k).1 * (cn l k).1)), ← area_zf, ← area_S]
  grind
theorem midY_from (l : List (Int × Int)) (p : Int × Int) : midY l = S l.length (fun k => ((sbt (cn l k) p).2 + (sbt (cn l ((k + 1) % l.length)) p).2) * zf l p k) + 3 * p.2 * areaZ l := by
  have h1 : ∀ k, fY l k = (((sbt (cn l k) p).2 + (sbt (cn l ((k + 1) % l.length)) p).2) * zf l p k + (2 * p.2) * zf l p k) + (p.2 * cz l k + ((p.1 * ((cn l ((k + 1) % l.length)).2 * (cn l ((k + 1) % l.length)).2) - p.2 * ((cn l ((k + 1) % l.length)).1 * (cn l ((k + 1) % l.length)).2)) - (p.1 * ((cn l k).2 * (cn l k).2) - p.2 * ((cn l k).1 * (cn l k).2)))) := by
    intro k
    show ((cn l k).2 + (cn l ((k + 1) % l.length)).2) * crs (cn l k) (cn l ((k + 1) % l.length)) = _
    show _ = (((sbt (cn l k) p).2 + (sbt (cn l ((k + 1) % l.length)) p).2) * crs (sbt (cn l k) p) (sbt (cn l ((k + 1) % l.length)) p) + (2 * p.2) * crs (sbt (cn l k) p) (sbt (cn l ((k + 1) % l.length)) p)) + (p.2 * crs (cn l k) (cn l ((k + 1) % l.length)) + _)
    generalize cn l k = a
    generalize cn l ((k + 1) % l.length) = b
    simp only [crs, sbt]; grind
  unfold midY
  rw [S_congr (fun k _ => h1 k), S_add, S_add, S_add, S_mul, S_mul, S_sub, S_cyc l.length (fun k => p.1 * ((cn l k).2 * (cn l k).2) - p.2 * ((cn l k).1 * (cn l k).2)), ← area_zf, ← area_S]
  grind

theorem gcdL_dvd3 (a b c : Int) : ((gcdL [a, b, c] : Nat) : Int) ∣ a ∧ ((gcdL [a, b, c] : Nat) : Int) ∣ b ∧ ((gcdL [a, b, c] : Nat) : Int) ∣ c := by
  rw [gcdL_three]
  have h1 : ((Int.gcd ((Int.gcd a b : Nat) : Int) c : Nat) : Int) ∣ ((Int.gcd a b : Nat) : Int) := Int.gcd_dvd_left ..
  have h2 : ((Int.gcd ((Int.gcd a b : Nat) : Int) c : Nat) : Int) ∣ c := Int.gcd_dvd_right ..
  have h3 : ((Int.gcd a b : Nat) : Int) ∣ a := Int.gcd_dvd_left ..
  have h4 : ((Int.gcd a b : Nat) : Int) ∣ b := Int.gcd_dvd_right ..
  exact ⟨Int.dvd_trans h1 h3, Int.dvd_trans h1 h4, h2⟩
theorem mX_mul (l : List (Int × Int)) : (midG l : Int) * mX l = midX l := Int.mul_tdiv_cancel' (gcdL_dvd3 _ _ _).1
theorem mY_mul (l : List (Int × Int)) : (midG l : Int) * mY l = midY l := Int.mul_tdiv_cancel' (gcdL_dvd3 _ _ _).2.1
theorem mD_mul (l : List (Int × Int)) : (midG l : Int) * mD l = 3 * areaZ l := Int.mul_tdiv_cancel' (gcdL_dvd3 _ _ _).2.2
theorem mD_pos {l : List (Int × Int)} (T : Tame l) : 0 < mD l := by
  have h1 := mD_mul l
  have h2 := T.area
  have h3 := midG_pos T
  exact pos_of_mul (a := (midG l : Int)) (by omega) (by omega)

/-- how far the middle is from side i, times its length and D -/
def offZ (l : List (Int × Int)) (i : Nat) : Int := crs (sbt (cn l ((i + 1) % l.length)) (cn l i)) (sbt (mX l, mY l) (mD l * (cn l i).1, mD l * (cn l i).2))

theorem off_sum (l : List (Int × Int)) (i : Nat) : (midG l : Int) * offZ l i = S l.length (fun k => zf l (cn l i) k * (crs (sbt (cn l ((i + 1) % l.length)) (cn l i)) (sbt (cn l k) (cn l i)) + crs (sbt (cn l ((i + 1) % l.length)) (cn l i)) (sbt (cn l ((k + 1) % l.length)) (cn l i)))) := by
  have hx := mX_mul l
  have hy := mY_mul l
  have hd := mD_mul l
  have fx := midX_from l (cn l i)
  have fy := midY_from l (cn l i)
  unfold offZ
  generalize cn l ((i + 1) % l.length) = q at *
  generalize cn l i = p at *
  have e : (midG l : Int) * crs (sbt q p) (sbt (mX l, mY l) (mD l * p.1, mD l * p.2)) = (q.1 - p.1) * (midY l - 3 * p.2 * areaZ l) - (q.2 - p.2) * (midX l - 3 * p.1 * areaZ l) := by
    rw [← hx, ← hy, show 3 * p.2 * areaZ l = p.2 * (3 * areaZ l) by grind, show 3 * p.1 * areaZ l = p.1 * (3 * areaZ l) by grind, ← hd]
    simp only [crs, sbt]; grind
  rw [e, fx, fy, Int.add_sub_cancel, Int.add_sub_cancel, ← S_mul, ← S_mul, ← S_sub]
  refine S_congr (fun k _ => ?_)
  generalize zf l p k = z
  generalize cn l k = a
  generalize cn l ((k + 1) % l.length) = b
  simp only [crs, sbt]; grind

theorem crs_off {p q a : Int × Int} : crs (sbt q p) (sbt a p) = Geo.turn p q a := by simp only [crs, sbt, Geo.turn]; grind

section
variable {l : List (Int × Int)} (T : Tame l)
include T
theorem Tame.left {i k : Nat} (hi : i < l.length) (hk : k < l.length) : 0 ≤ crs (sbt (cn l ((i + 1) % l.length)) (cn l i)) (sbt (cn l k) (cn l i)) := by
  by_cases h1 : k = i
  · subst h1; simp only [crs, sbt]; grind
  · by_cases h2 : k = (i + 1) % l.length
    · rw [← h2]; simp only [crs, sbt]; grind
    · have := T.turn hi hk h1 h2
      rw [crs_off]
      omega
theorem Tame.off_pos {i : Nat} (hi : i < l.length) : 0 < offZ l i := by
  have h3 := T.lo
  have hg := midG_pos T
  have hs := off_sum l i
  have e1 := mod_succ hi
  have hj : (i + 1) % l.length < l.length := Nat.mod_lt _ (by omega)
  have e2 := mod_succ hj
  have hm : ((i + 1) % l.length + 1) % l.length < l.length := Nat.mod_lt _ (by omega)
  refine pos_of_mul (a := (midG l : Int)) (by omega) ?_
  rw [hs]
  refine S_pos (fun k hk => ?_) ((i + 1) % l.length) hj ?_
  · exact Int.mul_nonneg (T.side hk hi) (Int.add_nonneg (T.left hi hk) (T.left hi (Nat.mod_lt _ (by omega))))
  · have n1 : i ≠ (i + 1) % l.length := by rw [e1]; split <;> omega
    have n2 : i ≠ ((i + 1) % l.length + 1) % l.length := by rw [e2, e1]; split <;> split <;> omega
    have n3 : ((i + 1) % l.length + 1) % l.length ≠ (i + 1) % l.length := by rw [e2, e1]; split <;> split <;> omega
    have t1 := T.turn (i := (i + 1) % l.length) (k := i) hj hi n1 n2
    rw [turn_c] at t1
    have t2 := T.turn (i := i) (k := ((i + 1) % l.length + 1) % l.length) hi hm n2.symm n3
    rw [← crs_off] at t2
    refine Int.mul_pos t1 ?_
    have := T.left hi hj
    omega
end

end Go.Proofs.Ytecncmmkghmojaa.Sh

