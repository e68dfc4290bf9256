/- Lean of the program and of the document. -/
import Derived.Test.YtecncmmkghmojaaXr
set_option linter.all false
namespace Go.Proofs.Ytecncmmkghmojaa.Sh
open Go Geo
set_option maxRecDepth 100000

def lenZ (l : List (Int × Int)) (i : Nat) : Int := dotp (sbt (cn l ((i + 1) % l.length)) (cn l i)) (sbt (cn l ((i + 1) % l.length)) (cn l i))
theorem lenZ_pos {l : List (Int × Int)} (T : Tame l) {i : Nat} (hi : i < l.length) : 0 < lenZ l i := by
  have ho := T.off_pos hi
  unfold offZ at ho
  unfold lenZ
  generalize sbt (cn l ((i + 1) % l.length)) (cn l i) = U at *
  have h1 : 0 ≤ U.1 * U.1 := Geo.sq_nonneg _
  have h2 : 0 ≤ U.2 * U.2 := Geo.sq_nonneg _
  have : dotp U U = U.1 * U.1 + U.2 * U.2 := rfl
  by_cases e : dotp U U = 0
  · have e1 : U.1 = 0 := Geo.sq_zero (by omega)
    have e2 : U.2 = 0 := Geo.sq_zero (by omega)
    simp only [crs, e1, e2] at ho
    omega
  · omega
theorem sbt_in {p q : Int × Int} (hp : inR p) (hq : inR q) : sm (sbt q p) := by
  obtain ⟨a1, a2, a3, a4⟩ := hp
  obtain ⟨b1, b2, b3, b4⟩ := hq
  exact ⟨by simp only [sbt]; omega, by simp only [sbt]; omega⟩
end Go.Proofs.Ytecncmmkghmojaa.Sh

