/- A hull has at least two firm rests: plain laws. -/
import Derived.Test.YtecncmmkghmojaaYb
set_option linter.all false
namespace Go.Proofs.Ytecncmmkghmojaa.Sh
open Go Geo
set_option maxRecDepth 100000

/-- corner k, seen from the middle, times D -/
def xk (l : List (Int × Int)) (k : Nat) : Int × Int := (mD l * (cn l k).1 - mX l, mD l * (cn l k).2 - mY l)
theorem mid_scaled (l : List (Int × Int)) (hg : 0 < midG l) : mD l * midX l = 3 * areaZ l * mX l ∧ mD l * midY l = 3 * areaZ l * mY l := by
  have hx := mX_mul l
  have hy := mY_mul l
  have hd := mD_mul l
  constructor
  · rw [← hx, ← hd]; grind
  · rw [← hy, ← hd]; grind

def mtel (X Y D : Int) (V p : Int × Int) : Int := D * D * (V.1 * (Y * (p.1 * p.1) - X * (p.1 * p.2)) + V.2 * (Y * (p.1 * p.2) - X * (p.2 * p.2))) + 2 * D * (V.1 * X + V.2 * Y) * (X * p.2 - Y * p.1)
theorem mtel_id (X Y D : Int) (V p q : Int × Int) : crs (D * p.1 - X, D * p.2 - Y) (D * q.1 - X, D * q.2 - Y) * dotp V ((D * p.1 - X) + (D * q.1 - X), (D * p.2 - Y) + (D * q.2 - Y)) =
    (D * D * D * V.1) * ((p.1 + q.1) * crs p q) + ((D * D * D * V.2) * ((p.2 + q.2) * crs p q) + ((- 3 * (D * D) * (V.1 * X + V.2 * Y)) * crs p q + (mtel X Y D V q - mtel X Y D V p))) := by
  obtain ⟨p1, p2⟩ := p
  obtain ⟨q1, q2⟩ := q
  obtain ⟨v1, v2⟩ := V
  simp only [crs, dotp, mtel]
  grind
/-- the moments of the triangles seen from the middle add up to nothing -/
theorem moment_zero (l : List (Int × Int)) (hg : 0 < midG l) (V : Int × Int) : S l.length (fun k => crs (xk l k) (xk l ((k + 1) % l.length)) * dotp V ((xk l k).1 + (xk l ((k + 1) % l.length)).1, (xk l k).2 + (xk l ((k + 1) % l.length)).2)) = 0 := by
  obtain ⟨h1, h2⟩ := mid_scaled l hg
  have ex : ∀ k, crs (xk l k) (xk l ((k + 1) % l.length)) * dotp V ((xk l k).1 + (xk l ((k + 1) % l.length)).1, (xk l k).2 + (xk l ((k + 1) % l.length)).2) =
      (mD l * mD l * mD l * V.1) * fX l k + ((mD l * mD l * mD l * V.2) * fY l k + ((- 3 * (mD l * mD l) * (V.1 * mX l + V.2 * mY l)) * cz l k + (mtel (mX l) (mY l) (mD l) V (cn l ((k + 1) % l.length)) - mtel (mX l) (mY l) (mD l) V (cn l k)))) :=
    fun k => mtel_id _ _ _ V _ _
  rw [S_congr (fun k _ => ex k), S_add, S_add, S_add, S_mul, S_mul, S_mul, S_sub, S_cyc l.length (fun k => mtel (mX l) (mY l) (mD l) V (cn l k)), Int.sub_self, Int.add_zero]
  show mD l * mD l * mD l * V.1 * midX l + (mD l * mD l * mD l * V.2 * midY l + -3 * (mD l * mD l) * (V.1 * mX l + V.2 * mY l) * areaZ l) = 0
  have e1 : mD l * mD l * mD l * V.1 * midX l = mD l * mD l * V.1 * (mD l * midX l) := by grind
  have e2 : mD l * mD l * mD l * V.2 * midY l = mD l * mD l * V.2 * (mD l * midY l) := by grind
  rw [e1, e2, h1, h2]
  grind

/-- along side k: how the square of the distance from the middle grows at its ends -/
def gA (l : List (Int × Int)) (k : Nat) : Int := - al l k
def gB (l : List (Int × Int)) (k : Nat) : Int := be l ((k + 1) % l.length)
theorem gA_eq (l : List (Int × Int)) (k : Nat) : mD l * gA l k = dotp (xk l k) (xk l ((k + 1) % l.length)) - dotp (xk l k) (xk l k) := by
  unfold gA al ahd xk
  simp only [dotp, sbt]; grind
theorem gB_eq (l : List (Int × Int)) {k : Nat} (hk : k < l.length) : mD l * gB l k = dotp (xk l ((k + 1) % l.length)) (xk l ((k + 1) % l.length)) - dotp (xk l k) (xk l ((k + 1) % l.length)) := by
  unfold gB
  rw [be_succ l hk]
  unfold ahd xk
  simp only [dotp, sbt]; grind

/-- what is linear, weighted by the growth of the square of the distance, adds up to nothing round a hull -/
theorem linear_zero (l : List (Int × Int)) (hg : 0 < midG l) (V : Int × Int) : S l.length (fun k => mD l * (crs V (xk l k) * (2 * gA l k + gB l k) + crs V (xk l ((k + 1) % l.length)) * (gA l k + 2 * gB l k))) = 0 := by
  have ex : ∀ k, k < l.length → mD l * (crs V (xk l k) * (2 * gA l k + gB l k) + crs V (xk l ((k + 1) % l.length)) * (gA l k + 2 * gB l k)) =
      (2 * (dotp (xk l ((k + 1) % l.length)) (xk l ((k + 1) % l.length)) * crs V (xk l ((k + 1) % l.length))) - 2 * (dotp (xk l k) (xk l k) * crs V (xk l k))) -
        crs (xk l k) (xk l ((k + 1) % l.length)) * dotp V ((xk l k).1 + (xk l ((k + 1) % l.length)).1, (xk l k).2 + (xk l ((k + 1) % l.length)).2) := by
    intro k hk
    have a := gA_eq l k
    have b := gB_eq l hk
    generalize xk l ((k + 1) % l.length) = Q at *
    generalize xk l k = P at *
    have e : mD l * (crs V P * (2 * gA l k + gB l k) + crs V Q * (gA l k + 2 * gB l k)) = crs V P * (2 * (mD l * gA l k) + mD l * gB l k) + crs V Q * (mD l * gA l k + 2 * (mD l * gB l k)) := by grind
    rw [e, a, b]
    obtain ⟨p1, p2⟩ := P
    obtain ⟨q1, q2⟩ := Q
    obtain ⟨v1, v2⟩ := V
    simp only [crs, dotp]
    grind
  rw [S_congr ex, S_sub, moment_zero l hg V, S_sub, S_cyc l.length (fun k => 2 * (dotp (xk l k) (xk l k) * crs V (xk l k)))]
  omega
theorem const_zero (l : List (Int × Int)) : S l.length (fun k => mD l * (gA l k + gB l k)) = 0 := by
  have ex : ∀ k, k < l.length → mD l * (gA l k + gB l k) = dotp (xk l ((k + 1) % l.length)) (xk l ((k + 1) % l.length)) - dotp (xk l k) (xk l k) := by
    intro k hk
    have a := gA_eq l k
    have b := gB_eq l hk
    rw [Int.mul_add, a, b]; omega
  rw [S_congr ex, S_sub, S_cyc l.length (fun k => dotp (xk l k) (xk l k)), Int.sub_self]
/-- the same for what is linear but for a constant -/
theorem affine_zero (l : List (Int × Int)) (hg : 0 < midG l) (V : Int × Int) (c : Int) (h : Nat → Int) (hh : ∀ k, mD l * h k = crs V (xk l k) + c) :
    S l.length (fun k => mD l * (mD l * (h k * (2 * gA l k + gB l k) + h ((k + 1) % l.length) * (gA l k + 2 * gB l k)))) = 0 := by
  have ex : ∀ k, k < l.length → mD l * (mD l * (h k * (2 * gA l k + gB l k) + h ((k + 1) % l.length) * (gA l k + 2 * gB l k))) =
      mD l * (crs V (xk l k) * (2 * gA l k + gB l k) + crs V (xk l ((k + 1) % l.length)) * (gA l k + 2 * gB l k)) + 3 * c * (mD l * (gA l k + gB l k)) := by
    intro k hk
    have a := hh k
    have b := hh ((k + 1) % l.length)
    have e : mD l * (mD l * (h k * (2 * gA l k + gB l k) + h ((k + 1) % l.length) * (gA l k + 2 * gB l k))) = mD l * ((mD l * h k) * (2 * gA l k + gB l k) + (mD l * h ((k + 1) % l.length)) * (gA l k + 2 * gB l k)) := by grind
    rw [e, a, b]; grind
  rw [S_congr ex, S_add, linear_zero l hg V, S_mul, const_zero, Int.mul_zero, Int.add_zero]

/-- three corners in order turn to the left -/
theorem Tame.three {l : List (Int × Int)} (T : Tame l) {i : Nat} : ∀ (j k : Nat), i < j → j < k → k < l.length → 0 < Geo.turn (cn l i) (cn l j) (cn l k) := by
  intro j k hij hjk hk
  have t3 := T.lo
  -- from the first to the second: a side
  have side : ∀ m, i + 1 < m → m < l.length → 0 < crs (sbt (cn l (i + 1)) (cn l i)) (sbt (cn l m) (cn l i)) := by
    intro m h1 h2
    have := T.turn (i := i) (k := m) (by omega) h2 (by omega) (by rw [Nat.mod_eq_of_lt (by omega)]; omega)
    rw [Nat.mod_eq_of_lt (by omega)] at this
    rw [crs_off]; exact this
  have next : ∀ m, i < m → m + 1 < l.length → 0 < crs (sbt (cn l m) (cn l i)) (sbt (cn l (m + 1)) (cn l i)) := by
    intro m h1 h2
    have := T.turn (i := m) (k := i) (by omega) (by omega) (by omega) (by rw [Nat.mod_eq_of_lt h2]; omega)
    rw [Nat.mod_eq_of_lt h2, turn_c] at this
    exact this
  have main : ∀ d m, i < m → m + d + 1 < l.length → 0 < crs (sbt (cn l m) (cn l i)) (sbt (cn l (m + d + 1)) (cn l i)) := by
    intro d
    induction d with
    | zero => intro m h1 h2; exact next m h1 h2
    | succ d ih =>
      intro m h1 h2
      by_cases e : m = i + 1
      · subst e; exact side _ (by omega) h2
      · have a := ih m h1 (by omega)
        have b := next (m + d + 1) (by omega) (by omega)
        have c1 := side m (by omega) (by omega)
        have c2 := side (m + d + 1) (by omega) (by omega)
        have c3 := side (m + d + 1 + 1) (by omega) (by omega)
        rw [show m + (d + 1) + 1 = m + d + 1 + 1 by omega]
        generalize sbt (cn l (i + 1)) (cn l i) = D at *
        generalize sbt (cn l m) (cn l i) = u at *
        generalize sbt (cn l (m + d + 1)) (cn l i) = v at *
        generalize sbt (cn l (m + d + 1 + 1)) (cn l i) = w at *
        have pl : crs D v * crs u w = crs D u * crs v w + crs D w * crs u v := by simp only [crs]; grind
        have m1 := Int.mul_pos c1 b
        have m2 := Int.mul_pos c3 a
        exact pos_of_mul c2 (by omega)
  have := main (k - j - 1) j hij (by omega)
  rw [show j + (k - j - 1) + 1 = k by omega] at this
  rw [← crs_off]; exact this
theorem turn_rot (a b c : Int × Int) : Geo.turn a b c = Geo.turn b c a := by simp only [Geo.turn]; grind
theorem turn_swap (a b c : Int × Int) : Geo.turn a b c = - Geo.turn a c b := by simp only [Geo.turn]; grind
theorem turn_same (a b : Int × Int) : Geo.turn a a b = 0 ∧ Geo.turn a b b = 0 ∧ Geo.turn a b a = 0 := by
  refine ⟨?_, ?_, ?_⟩ <;> simp only [Geo.turn] <;> grind
end Go.Proofs.Ytecncmmkghmojaa.Sh

