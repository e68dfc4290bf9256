/- The middle lies inside a hull: plain laws. -/
import Derived.Test.YtecncmmkghmojaaXq
set_option linter.all false
namespace Go.Proofs.Ytecncmmkghmojaa.Sh
open Go Geo
set_option maxRecDepth 100000

/-- the cross product of the ends of side k, seen from p -/
def zf (l : List (Int × Int)) (p : Int × Int) (k : Nat) : Int := crs (sbt (cn l k) p) (sbt (cn l ((k + 1) % l.length)) p)
theorem area_zf (l : List (Int × Int)) (p : Int × Int) : areaZ l = S l.length (zf l p) := area_from l p

theorem midX_from (l : List (Int × Int)) (p : Int × Int) : midX l = S l.length (fun k => ((sbt (cn l k) p).1 + (sbt (cn l ((k + 1) % l.length)) p).1) * zf l p k) + 3 * p.1 * areaZ l := by
  have h1 : ∀ k, fX l k = (((sbt (cn l k) p).1 + (sbt (cn l ((k + 1) % l.length)) p).1) * zf l p k + (2 * p.1) * zf l p k) + (p.1 * cz l k + ((p.1 * ((cn l ((k + 1) % l.length)).1 * (cn l ((k + 1) % l.length)).2) - p.2 * ((cn l ((k + 1) % l.length)).1 * (cn l ((k + 1) % l.length)).1)) - (p.1 * ((cn l k).1 * (cn l k).2) - p.2 * ((cn l k).1 * (cn l k).1)))) := by
    intro k
    show ((cn l k).1 + (cn l ((k + 1) % l.length)).1) * crs (cn l k) (cn l ((k + 1) % l.length)) = _
    show _ = (((sbt (cn l k) p).1 + (sbt (cn l ((k + 1) % l.length)) p).1) * crs (sbt (cn l k) p) (sbt (cn l ((k + 1) % l.length)) p) + (2 * p.1) * crs (sbt (cn l k) p) (sbt (cn l ((k + 1) % l.length)) p)) + (p.1 * crs (cn l k) (cn l ((k + 1) % l.length)) + _)
    generalize cn l k = a
    generalize cn l ((k + 1) % l.length) = b
    simp only [crs, sbt]; grind
  unfold midX
  rw [S_congr (fun k _ => h1 k), S_add, S_add, S_add, S_mul, S_mul, S_sub, S_cyc l.length (fun k => p.1 * ((cn l k).1 * (cn l k).2) - p.2 * ((cn l k).1 * (cn l k).1)), ← area_zf, ← area_S]
  grind
theorem midY_from (l : List (Int × Int)) (p : Int × Int) : midY l = S l.length (fun k => ((sbt (cn l k) p).2 + (sbt (cn l ((k + 1) % l.length)) p).2) * zf l p k) + 3 * p.2 * areaZ l := by
  have h1 : ∀ k, fY l k = (((sbt (cn l k) p).2 + (sbt (cn l ((k + 1) % l.length)) p).2) * zf l p k + (2 * p.2) * zf l p k) + (p.2 * cz l k + ((p.1 * ((cn l ((k + 1) % l.length)).2 * (cn l ((k + 1) % l.length)).2) - p.2 * ((cn l ((k + 1) % l.length)).1 * (cn l ((k + 1) % l.length)).2)) - (p.1 * ((cn l k).2 * (cn l k).2) - p.2 * ((cn l k).1 * (cn l k).2)))) := by
    intro k
    show ((cn l k).2 + (cn l ((k + 1) % l.length)).2) * crs (cn l k) (cn l ((k + 1) % l.length)) = _
    show _ = (((sbt (cn l k) p).2 + (sbt (cn l ((k + 1) % l.length)) p).2) * crs (sbt (cn l k) p) (sbt (cn l ((k + 1) % l.length)) p) + (2 * p.2) * crs (sbt (cn l k) p) (sbt (cn l ((k + 1) % l.length)) p)) + (p.2 * crs (cn l k) (cn l ((k + 1) % l.length)) + _)
    generalize cn l k = a
    generalize cn l ((k + 1) % l.length) = b
    simp only [crs, sbt]; grind
  unfold midY
  rw [S_congr (fun k _ => h1 k), S_add, S_add, S_add, S_mul, S_mul, S_sub, S_cyc l.length (fun k => p.1 * ((cn l k).2 * (cn l k).2) - p.2 * ((cn l k).1 * (cn l k).2)), ← area_zf, ← area_S]
  grind

theorem gcdL_dvd3 (a b c : Int) : ((gcdL [a, b, c] : Nat) : Int) ∣ a ∧ ((gcdL [a, b, c] : Nat) : Int) ∣ b ∧ ((gcdL [a, b, c] : Nat) : Int) ∣ c := by
  rw [gcdL_three]
  have h1 : ((Int.gcd ((Int.gcd a b : Nat) : Int) c : Nat) : Int) ∣ ((Int.gcd a b : Nat) : Int) := Int.gcd_dvd_left ..
  have h2 : ((Int.gcd ((Int.gcd a b : Nat) : Int) c : Nat) : Int) ∣ c := Int.gcd_dvd_right ..
  have h3 : ((Int.gcd a b : Nat) : Int) ∣ a := Int.gcd_dvd_left ..
  have h4 : ((Int.gcd a b : Nat) : Int) ∣ b := Int.gcd_dvd_right ..
  exact ⟨Int.dvd_trans h1 h3, Int.dvd_trans h1 h4, h2⟩
theorem mX_mul (l : List (Int × Int)) : (midG l : Int) * mX l = midX l := Int.mul_tdiv_cancel' (gcdL_dvd3 _ _ _).1
theorem mY_mul (l : List (Int × Int)) : (midG l : Int) * mY l = midY l := Int.mul_tdiv_cancel' (gcdL_dvd3 _ _ _).2.1
theorem mD_mul (l : List (Int × Int)) : (midG l : Int) * mD l = 3 * areaZ l := Int.mul_tdiv_cancel' (gcdL_dvd3 _ _ _).2.2
theorem mD_pos {l : List (Int × Int)} (T : Tame l) : 0 < mD l := by
  have h1 := mD_mul l
  have h2 := T.area
  have h3 := midG_pos T
  exact pos_of_mul (a := (midG l : Int)) (by omega) (by omega)

/-- how far the middle is from side i, times its length and D -/
def offZ (l : List (Int × Int)) (i : Nat) : Int := crs (sbt (cn l ((i + 1) % l.length)) (cn l i)) (sbt (mX l, mY l) (mD l * (cn l i).1, mD l * (cn l i).2))

theorem off_sum (l : List (Int × Int)) (i : Nat) : (midG l : Int) * offZ l i = S l.length (fun k => zf l (cn l i) k * (crs (sbt (cn l ((i + 1) % l.length)) (cn l i)) (sbt (cn l k) (cn l i)) + crs (sbt (cn l ((i + 1) % l.length)) (cn l i)) (sbt (cn l ((k + 1) % l.length)) (cn l i)))) := by
  have hx := mX_mul l
  have hy := mY_mul l
  have hd := mD_mul l
  have fx := midX_from l (cn l i)
  have fy := midY_from l (cn l i)
  unfold offZ
  generalize cn l ((i + 1) % l.length) = q at *
  generalize cn l i = p at *
  have e : (midG l : Int) * crs (sbt q p) (sbt (mX l, mY l) (mD l * p.1, mD l * p.2)) = (q.1 - p.1) * (midY l - 3 * p.2 * areaZ l) - (q.2 - p.2) * (midX l - 3 * p.1 * areaZ l) := by
    rw [← hx, ← hy, show 3 * p.2 * areaZ l = p.2 * (3 * areaZ l) by grind, show 3 * p.1 * areaZ l = p.1 * (3 * areaZ l) by grind, ← hd]
    simp only [crs, sbt]; grind
  rw [e, fx, fy, Int.add_sub_cancel, Int.add_sub_cancel, ← S_mul, ← S_mul, ← S_sub]
  refine S_congr (fun k _ => ?_)
  generalize zf l p k = z
  generalize cn l k = a
  generalize cn l ((k + 1) % l.length) = b
  simp only [crs, sbt]; grind

theorem crs_off {p q a : Int × Int} : crs (sbt q p) (sbt a p) = Geo.turn p q a := by simp only [crs, sbt, Geo.turn]; grind

section
variable {l : List (Int × Int)} (T : Tame l)
include T
theorem Tame.left {i k : Nat} (hi : i < l.length) (hk : k < l.length) : 0 ≤ crs (sbt (cn l ((i + 1) % l.length)) (cn l i)) (sbt (cn l k) (cn l i)) := by
  by_cases h1 : k = i
  · subst h1; simp only [crs, sbt]; grind
  · by_cases h2 : k = (i + 1) % l.length
    · rw [← h2]; simp only [crs, sbt]; grind
    · have := T.turn hi hk h1 h2
      rw [crs_off]
      omega
theorem Tame.off_pos {i : Nat} (hi : i < l.length) : 0 < offZ l i := by
  have h3 := T.lo
  have hg := midG_pos T
  have hs := off_sum l i
  have e1 := mod_succ hi
  have hj : (i + 1) % l.length < l.length := Nat.mod_lt _ (by omega)
  have e2 := mod_succ hj
  have hm : ((i + 1) % l.length + 1) % l.length < l.length := Nat.mod_lt _ (by omega)
  refine pos_of_mul (a := (midG l : Int)) (by omega) ?_
  rw [hs]
  refine S_pos (fun k hk => ?_) ((i + 1) % l.length) hj ?_
  · exact Int.mul_nonneg (T.side hk hi) (Int.add_nonneg (T.left hi hk) (T.left hi (Nat.mod_lt _ (by omega))))
  · have n1 : i ≠ (i + 1) % l.length := by rw [e1]; split <;> omega
    have n2 : i ≠ ((i + 1) % l.length + 1) % l.length := by rw [e2, e1]; split <;> split <;> omega
    have n3 : ((i + 1) % l.length + 1) % l.length ≠ (i + 1) % l.length := by rw [e2, e1]; split <;> split <;> omega
    have t1 := T.turn (i := (i + 1) % l.length) (k := i) hj hi n1 n2
    rw [turn_c] at t1
    have t2 := T.turn (i := i) (k := ((i + 1) % l.length + 1) % l.length) hi hm n2.symm n3
    rw [← crs_off] at t2
    refine Int.mul_pos t1 ?_
    have := T.left hi hj
    omega
end

/-- twice the area of a triangle in the square -/
theorem tri_bound {p q a : Int × Int} (hp : inR p) (hq : inR q) (ha : inR a) : (crs (sbt q p) (sbt a p)).natAbs ≤ 1600 := by
  obtain ⟨p1, p2, p3, p4⟩ := hp
  obtain ⟨q1, q2, q3, q4⟩ := hq
  obtain ⟨a1, a2, a3, a4⟩ := ha
  obtain ⟨x, y⟩ := p
  obtain ⟨u, v⟩ := q
  obtain ⟨s, t⟩ := a
  simp only at *
  have e : crs (sbt (u, v) (x, y)) (sbt (s, t) (x, y)) = s * (y - v) + t * (u - x) + (x * v - y * u) := by simp only [crs, sbt]; grind
  rw [e]
  have b1 : (s * (y - v)).natAbs ≤ 20 * (y - v).natAbs := by rw [Int.natAbs_mul]; exact Nat.mul_le_mul (by omega) (Nat.le_refl _)
  have b2 : (t * (u - x)).natAbs ≤ 20 * (u - x).natAbs := by rw [Int.natAbs_mul]; exact Nat.mul_le_mul (by omega) (Nat.le_refl _)
  have m1 := Int.mul_nonneg (show 0 ≤ 20 - v by omega) (show 0 ≤ 20 + x by omega)
  have m2 := Int.mul_nonneg (show 0 ≤ 20 - v by omega) (show 0 ≤ 20 - x by omega)
  have m3 := Int.mul_nonneg (show 0 ≤ 20 + v by omega) (show 0 ≤ 20 + x by omega)
  have m4 := Int.mul_nonneg (show 0 ≤ 20 + v by omega) (show 0 ≤ 20 - x by omega)
  have m5 := Int.mul_nonneg (show 0 ≤ 20 - u by omega) (show 0 ≤ 20 + y by omega)
  have m6 := Int.mul_nonneg (show 0 ≤ 20 - u by omega) (show 0 ≤ 20 - y by omega)
  have m7 := Int.mul_nonneg (show 0 ≤ 20 + u by omega) (show 0 ≤ 20 + y by omega)
  have m8 := Int.mul_nonneg (show 0 ≤ 20 + u by omega) (show 0 ≤ 20 - y by omega)
  rw [show (20 - v) * (20 + x) = 400 + 20 * x - 20 * v - x * v by grind] at m1
  rw [show (20 - v) * (20 - x) = 400 - 20 * x - 20 * v + x * v by grind] at m2
  rw [show (20 + v) * (20 + x) = 400 + 20 * x + 20 * v + x * v by grind] at m3
  rw [show (20 + v) * (20 - x) = 400 - 20 * x + 20 * v - x * v by grind] at m4
  rw [show (20 - u) * (20 + y) = 400 + 20 * y - 20 * u - y * u by grind] at m5
  rw [show (20 - u) * (20 - y) = 400 - 20 * y - 20 * u + y * u by grind] at m6
  rw [show (20 + u) * (20 + y) = 400 + 20 * y + 20 * u + y * u by grind] at m7
  rw [show (20 + u) * (20 - y) = 400 - 20 * y + 20 * u - y * u by grind] at m8
  generalize x * v = A at *
  generalize y * u = B at *
  generalize s * (y - v) = C at *
  generalize t * (u - x) = E at *
  omega

theorem S_le {n : Nat} {f g : Nat → Int} (h : ∀ k, k < n → f k ≤ g k) : S n f ≤ S n g := by
  induction n with
  | zero => exact Int.le_refl _
  | succ n ih => rw [S_succ, S_succ]; have := ih (fun k hk => h k (by omega)); have := h n (by omega); omega

theorem Tame.off_le {l : List (Int × Int)} (T : Tame l) {i : Nat} (hi : i < l.length) : offZ l i ≤ 30720000 := by
  have h3 := T.lo
  have hg := midG_pos T
  have hs := off_sum l i
  have ha := area_bound T
  have hz := area_zf l (cn l i)
  have h0 := T.off_pos hi
  have ri : ∀ k, inR (cn l k) := fun k => inR_getD T.inr k
  have : (midG l : Int) * offZ l i ≤ 3200 * areaZ l := by
    rw [hs, hz, ← S_mul]
    refine S_le (fun k hk => ?_)
    rw [Int.mul_comm]
    refine Int.mul_le_mul_of_nonneg_right ?_ (T.side hk hi)
    have b1 := tri_bound (ri i) (ri ((i + 1) % l.length)) (ri k)
    have b2 := tri_bound (ri i) (ri ((i + 1) % l.length)) (ri ((k + 1) % l.length))
    omega
  have h4 : offZ l i ≤ (midG l : Int) * offZ l i := by
    have : 1 * offZ l i ≤ (midG l : Int) * offZ l i := Int.mul_le_mul_of_nonneg_right (by omega) (by omega)
    omega
  omega

end Go.Proofs.Ytecncmmkghmojaa.Sh

