/- Rests, Firm and Tips of the program. -/
import Derived.Test.YtecncmmkghmojaaXn
set_option linter.all false
namespace Go.Proofs.Ytecncmmkghmojaa.Sh
open Go Geo
set_option maxRecDepth 100000

theorem call_first (R : Rec) (base : Nat) (h : SHeap) (d : List Nat) (g : FuncId) (x : Value) (args : List Value) : callS R base h d (.func (.func g) #[x] #[]) args = match R.call g (x :: args) h with
    | some (v, h', d') => some (v, h', dirts base d' d)
    | none => none := by simp [callS]; rfl
attribute [go_sem ↓] call_first

/-- numbers from 0 on, as cells -/
def natV (L : List Nat) : List Value := (L.map fun (i : Nat) => (i : Int)).map mkI
theorem natV_app (L K : List Nat) : natV (L ++ K) = natV L ++ natV K := by simp [natV]
theorem natV_one (i : Nat) : natV [i] = [.int .i64 i] := rfl
theorem AccS.body {H0 h : SHeap} {v : Value} {cs : List Value} {n s : Nat} {el : TypeId} (A : AccS H0 h v cs n s el) {b cb c : Nat} {l : List (Int × Int)} {X Y D : Int} (hb : Body H0 b cb c l X Y D) : Body h b cb c l X Y D :=
  ⟨by rw [A.same b hb.lt]; exact hb.1, A.prs hb.2⟩

end Go.Proofs.Ytecncmmkghmojaa.Sh

