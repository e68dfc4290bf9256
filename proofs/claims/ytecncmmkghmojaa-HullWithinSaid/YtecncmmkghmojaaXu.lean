/- Rolls: each step has a lesser lean, so a roll ends: plain laws. -/
import Derived.Test.YtecncmmkghmojaaXt
set_option linter.all false
namespace Go.Proofs.Ytecncmmkghmojaa.Sh
open Go Geo
set_option maxRecDepth 100000

/-- side i has a lesser lean than side j -/
def lnLt (l : List (Int × Int)) (i j : Nat) : Prop := offZ l i * offZ l i * lenZ l j < offZ l j * offZ l j * lenZ l i
instance (l : List (Int × Int)) (i j : Nat) : Decidable (lnLt l i j) := inferInstanceAs (Decidable (_ < _))
/-- the side on which the roll goes on -/
def nxt (l : List (Int × Int)) (i : Nat) : Nat := if ahd (mX l) (mY l) (mD l) (cn l i) (cn l ((i + 1) % l.length)) < 0 then (i + l.length - 1) % l.length else (i + 1) % l.length
/-- how many sides have a lesser lean -/
def rank (l : List (Int × Int)) (i : Nat) : Nat := ((List.range l.length).filter fun j => decide (lnLt l j i)).length
/-- a roll of at most k steps -/
def chain (l : List (Int × Int)) : Nat → Nat → List Nat
  | 0, i => [i]
  | k + 1, i => if tRest l i = true then [i] else i :: chain l k (nxt l i)
/-- the roll of side i -/
def roll (l : List (Int × Int)) (i : Nat) : List Nat := chain l (rank l i) i
end Go.Proofs.Ytecncmmkghmojaa.Sh

