/- Harmonic of the program and of the document: what they return for 1 to 30, and that it is the same. -/
import Derived.Test.YtecncmmkghmojaaH1
set_option linter.all false
/- Harmonic of the program and of the document: what they return for 1 to 30, and that it is the same. -/
namespace Go.Proofs.Ytecncmmkghmojaa.Sh
open Go
set_option maxRecDepth 100000
set_option linter.unusedSimpArgs false
set_option linter.unusedVariables false

def stepH (p : Int × Int) (i : Int) : Int × Int :=
  if p.1 = 0 then (1, 1) else ((p.1 * i + p.2).tdiv (Int.gcd (p.1 * i + p.2) (p.2 * i)), (p.2 * i).tdiv (Int.gcd (p.1 * i + p.2) (p.2 * i)))
def hs : Nat → Int × Int
  | 0 => (0, 0)
  | n + 1 => stepH (hs n) (n + 1)
def stepG (p : Int × Int) (i : Int) : Int × Int :=
  let g : Int := Int.gcd p.2 i
  let a := p.1 * (i.tdiv g) + p.2.tdiv g
  let b := p.2.tdiv g * i
  (a.tdiv (Int.gcd a b), b.tdiv (Int.gcd a b))
def rs : Nat → Int × Int
  | 0 => (0, 1)
  | n + 1 => stepG (rs n) (n + 1)
def two (p : Int × Int) : List Value := [.int .i64 p.1, .int .i64 p.2]

end Go.Proofs.Ytecncmmkghmojaa.Sh


