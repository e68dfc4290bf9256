/- How far the foot of the middle lies ahead: rests, firm rests and tips of the program and of the document. -/
import Derived.Test.YtecncmmkghmojaaXm
set_option linter.all false
namespace Go.Proofs.Ytecncmmkghmojaa.Sh
open Go Geo
set_option maxRecDepth 100000

/-- the numbers of a middle -/
structure Fine (X Y D : Int) : Prop where
  x : X.natAbs ≤ 384000
  y : Y.natAbs ≤ 384000
  d : D.natAbs ≤ 28800
/-- how far the foot lies ahead of p, towards q -/
def ahd (X Y D : Int) (p q : Int × Int) : Int := dotp (sbt (X, Y) (D * p.1, D * p.2)) (sbt q p)
def side (l : List (Int × Int)) (i : Nat) : (Int × Int) × (Int × Int) := (cn l i, cn l ((i + 1) % l.length))
def restB (X Y D : Int) (p q : Int × Int) : Bool := decide (0 ≤ ahd X Y D p q) && decide (0 ≤ ahd X Y D q p)
end Go.Proofs.Ytecncmmkghmojaa.Sh

