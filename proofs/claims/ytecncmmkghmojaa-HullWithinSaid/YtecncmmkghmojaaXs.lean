/- Lean of the program and of the document. -/
import Derived.Test.YtecncmmkghmojaaXr
set_option linter.all false
namespace Go.Proofs.Ytecncmmkghmojaa.Sh
open Go Geo
set_option maxRecDepth 100000

def lenZ (l : List (Int × Int)) (i : Nat) : Int := dotp (sbt (cn l ((i + 1) % l.length)) (cn l i)) (sbt (cn l ((i + 1) % l.length)) (cn l i))
theorem sbt_in {p q : Int × Int} (hp : inR p) (hq : inR q) : sm (sbt q p) := by
  obtain ⟨a1, a2, a3, a4⟩ := hp
  obtain ⟨b1, b2, b3, b4⟩ := hq
  exact ⟨by simp only [sbt]; omega, by simp only [sbt]; omega⟩
end Go.Proofs.Ytecncmmkghmojaa.Sh

