/- The middle lies inside a hull: plain laws. -/
import Derived.Test.YtecncmmkghmojaaXq
set_option linter.all false
namespace Go.Proofs.Ytecncmmkghmojaa.Sh
open Go Geo
set_option maxRecDepth 100000

/-- the cross product of the ends of side k, seen from p -/
def zf (l : List (Int × Int)) (p : Int × Int) (k : Nat) : Int := crs (sbt (cn l k) p) (sbt (cn l ((k + 1) % l.length)) p)
theorem area_zf (l : List (Int × Int)) (p : Int × Int) : areaZ l = S l.length (zf l p) := area_from l p

/-- how far the middle is from side i, times its length and D -/
def offZ (l : List (Int × Int)) (i : Nat) : Int := crs (sbt (cn l ((i + 1) % l.length)) (cn l i)) (sbt (mX l, mY l) (mD l * (cn l i).1, mD l * (cn l i).2))

theorem crs_off {p q a : Int × Int} : crs (sbt q p) (sbt a p) = Geo.turn p q a := by simp only [crs, sbt, Geo.turn]; grind

section
variable {l : List (Int × Int)} (T : Tame l)
include T
theorem Tame.left {i k : Nat} (hi : i < l.length) (hk : k < l.length) : 0 ≤ crs (sbt (cn l ((i + 1) % l.length)) (cn l i)) (sbt (cn l k) (cn l i)) := by
  by_cases h1 : k = i
  · subst h1; simp only [crs, sbt]; grind
  · by_cases h2 : k = (i + 1) % l.length
    · rw [← h2]; simp only [crs, sbt]; grind
    · have := T.turn hi hk h1 h2
      rw [crs_off]
      omega
end

end Go.Proofs.Ytecncmmkghmojaa.Sh

