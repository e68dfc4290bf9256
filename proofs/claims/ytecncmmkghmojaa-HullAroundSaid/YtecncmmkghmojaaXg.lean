/- open: the turns at the corners, the fan. -/
import Derived.Test.YtecncmmkghmojaaXf
set_option linter.all false
namespace Go.Proofs.Ytecncmmkghmojaa.Sh
open Go Geo
set_option maxRecDepth 100000

/-- after k corners: only garbage is new -/
structure JC (H0 : SHeap) (k : Nat) (hh : SHeap) (dd : List Nat) : Prop where
  len : H0.length ≤ hh.length
  same : ∀ j, j < H0.length → hh[j]? = H0[j]?
  none : dd = []
theorem JC.app {H0 : SHeap} {k : Nat} {hh : SHeap} {dd : List Nat} (g : SHeap) (J : JC H0 k hh dd) : JC H0 k (hh ++ g) dd := by
  have e := J.len
  exact ⟨by simp; omega, fun j a => by rw [List.getElem?_append_left (by omega)]; exact J.same j a, J.none⟩

end Go.Proofs.Ytecncmmkghmojaa.Sh

