/- At least two firm rests, and as many tips: plain laws. -/
import Derived.Test.YtecncmmkghmojaaYa
set_option linter.all false
/- At least two firm rests, and as many tips: plain laws. -/
namespace Go.Proofs.Ytecncmmkghmojaa.Sh
open Go Geo
set_option maxRecDepth 100000

/-- how far ahead: from corner k to the next one, and to the one before -/
def al (l : List (Int × Int)) (k : Nat) : Int := ahd (mX l) (mY l) (mD l) (cn l k) (cn l ((k + 1) % l.length))
def be (l : List (Int × Int)) (k : Nat) : Int := ahd (mX l) (mY l) (mD l) (cn l k) (cn l ((k + l.length - 1) % l.length))
section
variable {l : List (Int × Int)} (T : Tame l)
include T
end
end Go.Proofs.Ytecncmmkghmojaa.Sh


/- A hull has at least two firm rests: plain laws. -/
namespace Go.Proofs.Ytecncmmkghmojaa.Sh
open Go Geo
set_option maxRecDepth 100000

def gB (l : List (Int × Int)) (k : Nat) : Int := be l ((k + 1) % l.length)
/-- three corners in order turn to the left -/
theorem Tame.three {l : List (Int × Int)} (T : Tame l) {i : Nat} : ∀ (j k : Nat), i < j → j < k → k < l.length → 0 < Geo.turn (cn l i) (cn l j) (cn l k) := by
  intro j k hij hjk hk
  have t3 := T.lo
  -- from the first to the second: a side
  have side : ∀ m, i + 1 < m → m < l.length → 0 < crs (sbt (cn l (i + 1)) (cn l i)) (sbt (cn l m) (cn l i)) := by
    intro m h1 h2
    have := T.turn (i := i) (k := m) (by omega) h2 (by omega) (by rw [Nat.mod_eq_of_lt (by omega)]; omega)
    rw [Nat.mod_eq_of_lt (by omega)] at this
    rw [crs_off]; exact this
  have next : ∀ m, i < m → m + 1 < l.length → 0 < crs (sbt (cn l m) (cn l i)) (sbt (cn l (m + 1)) (cn l i)) := by
    intro m h1 h2
    have := T.turn (i := m) (k := i) (by omega) (by omega) (by omega) (by rw [Nat.mod_eq_of_lt h2]; omega)
    rw [Nat.mod_eq_of_lt h2, turn_c] at this
    exact this
  have main : ∀ d m, i < m → m + d + 1 < l.length → 0 < crs (sbt (cn l m) (cn l i)) (sbt (cn l (m + d + 1)) (cn l i)) := by
    intro d
    induction d with
    | zero => intro m h1 h2; exact next m h1 h2
    | succ d ih =>
      intro m h1 h2
      by_cases e : m = i + 1
      · subst e; exact side _ (by omega) h2
      · have a := ih m h1 (by omega)
        have b := next (m + d + 1) (by omega) (by omega)
        have c1 := side m (by omega) (by omega)
        have c2 := side (m + d + 1) (by omega) (by omega)
        have c3 := side (m + d + 1 + 1) (by omega) (by omega)
        rw [show m + (d + 1) + 1 = m + d + 1 + 1 by omega]
        generalize sbt (cn l (i + 1)) (cn l i) = D at *
        generalize sbt (cn l m) (cn l i) = u at *
        generalize sbt (cn l (m + d + 1)) (cn l i) = v at *
        generalize sbt (cn l (m + d + 1 + 1)) (cn l i) = w at *
        have pl : crs D v * crs u w = crs D u * crs v w + crs D w * crs u v := by simp only [crs]; grind
        have m1 := Int.mul_pos c1 b
        have m2 := Int.mul_pos c3 a
        exact pos_of_mul c2 (by omega)
  have := main (k - j - 1) j hij (by omega)
  rw [show j + (k - j - 1) + 1 = k by omega] at this
  rw [← crs_off]; exact this
end Go.Proofs.Ytecncmmkghmojaa.Sh


/- A hull has at least two firm rests. -/
namespace Go.Proofs.Ytecncmmkghmojaa.Sh
open Go Geo
set_option maxRecDepth 100000

end Go.Proofs.Ytecncmmkghmojaa.Sh


