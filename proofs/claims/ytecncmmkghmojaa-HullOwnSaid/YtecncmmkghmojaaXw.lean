/- Lowest of the program and of the document; the law of the rolls. -/
import Derived.Test.YtecncmmkghmojaaXv
set_option linter.all false
namespace Go.Proofs.Ytecncmmkghmojaa.Sh
open Go Geo
set_option maxRecDepth 100000

/-- the side with the least lean, of the first k -/
def lowF (l : List (Int × Int)) : Nat → Nat
  | 0 => 0
  | k + 1 => if k = 0 then 0 else if lnLt l k (lowF l k) then k else lowF l k
theorem lowF_lt {l : List (Int × Int)} (h : 0 < l.length) : ∀ k, k ≤ l.length → lowF l k < l.length
  | 0, _ => h
  | k + 1, hk => by
    unfold lowF
    split
    · exact h
    · split
      · omega
      · exact lowF_lt h k (by omega)
theorem lowF_one (l : List (Int × Int)) : lowF l 1 = 0 := by unfold lowF; simp
theorem lowF_pos {l : List (Int × Int)} {k : Nat} (hk : k ≠ 0) (h : lnLt l k (lowF l k)) : lowF l (k + 1) = k := by rw [lowF, if_neg hk, if_pos h]
theorem lowF_neg {l : List (Int × Int)} {k : Nat} (hk : k ≠ 0) (h : ¬ lnLt l k (lowF l k)) : lowF l (k + 1) = lowF l k := by rw [lowF, if_neg hk, if_neg h]

end Go.Proofs.Ytecncmmkghmojaa.Sh

