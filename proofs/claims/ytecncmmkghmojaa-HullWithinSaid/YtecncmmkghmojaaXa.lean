/- tame: the hulls that the statements make. -/
import Derived.Test.YtecncmmkghmojaaWz
import Derived.Test.YtecncmmkghmojaaH3
set_option linter.all false
namespace Go.Proofs.Ytecncmmkghmojaa.Sh
open Go Geo
set_option maxRecDepth 100000

theorem mod_succ {n x : Nat} (h : x < n) : (x + 1) % n = if x + 1 < n then x + 1 else 0 := by
  by_cases c : x + 1 < n
  · rw [if_pos c, Nat.mod_eq_of_lt c]
  · rw [if_neg c, show x + 1 = n by omega, Nat.mod_self]
/-- what a hull of the statements is -/
structure Tame (T : List (Int × Int)) : Prop where
  lo : 3 ≤ T.length
  hi : T.length ≤ 12
  inr : ∀ q ∈ T, inR q
  hull : HullP T

theorem slice_to {b n k : Nat} (h1 : k ≤ n) : sliceS 2 (.slice (some ⟨b, 0, none⟩) n (UNK + 2)) none (some (.int .i64 (k : Int))) none = some (.slice (some ⟨b, 0, none⟩) k (UNK + 2)) := by
  have e1 : Nat.ble UNK (UNK + 2) = true := by decide
  have e2 : (decide (0 ≤ (k : Int)) && decide ((k : Int) ≤ (n : Int))) = true := by simp; omega
  unfold sliceS
  simp only [bMx, e1, if_true, bHi, bnd, e2, bLo, Int.toNat_natCast]
  simp

end Go.Proofs.Ytecncmmkghmojaa.Sh

