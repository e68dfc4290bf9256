/- Ranges over functions on symbolic states; the corners with their neighbours. -/
import Derived.Test.YtecncmmkghmojaaXa
set_option linter.all false
namespace Go.Proofs.Ytecncmmkghmojaa.Sh
open Go Geo
set_option maxRecDepth 100000

section
variable {FT : FuncId → Option SFunc} {C : FuncId → List Value → Option Value}

end

theorem call_yield (R : Rec) (base l : Nat) (h : SHeap) (d : List Nat) (args : List Value) : callS R base h d (.func (.yield l) #[] #[]) args = match R.round base l args h with
    | some (v, h', d') => some (v, h', d' ++ d)
    | none => none := by simp [callS]; rfl
attribute [go_sem ↓] call_yield

end Go.Proofs.Ytecncmmkghmojaa.Sh

