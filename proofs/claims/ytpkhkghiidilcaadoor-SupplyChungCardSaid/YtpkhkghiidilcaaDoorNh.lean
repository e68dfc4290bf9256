/- The way back of the document (57). The walk. -/
import Derived.Test.YtpkhkghiidilcaaDoorH48
import Derived.Test.YtpkhkghiidilcaaDoorH46
set_option linter.all false
namespace Go.Proofs.YtpkhkghiidilcaaDoor.Sh
open Go
set_option maxRecDepth 100000
set_option maxHeartbeats 4000000
def nextU (adj : Nat → Nat → Bool) (far : Nat → Nat) (v : Nat) : Nat → Nat → Nat
  | 0, _ => v
  | m + 1, u => if adj u v = true ∧ far u + 1 = far v then u else nextU adj far v m (u + 1)
def backO (adj : Nat → Nat → Bool) (far : Nat → Nat) (n : Nat) (rd : Nat → Bool) : Nat → Nat → Option (List Nat)
  | 0, _ => none
  | k + 1, v => if rd v = true then some [] else match backO adj far n rd k (nextU adj far v n 0) with
    | none => none
    | some l => some (v :: l)
section
variable {H h : SHeap} {n goal : Nat} {E : List (Int × Int)} {ev : Value} {rd : Nat → Bool} {rb rc fb : Nat}
end
end Go.Proofs.YtpkhkghiidilcaaDoor.Sh

