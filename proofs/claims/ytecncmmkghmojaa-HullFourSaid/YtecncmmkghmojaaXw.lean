/- Lowest of the program and of the document; the law of the rolls. -/
import Derived.Test.YtecncmmkghmojaaXv
set_option linter.all false
namespace Go.Proofs.Ytecncmmkghmojaa.Sh
open Go Geo
set_option maxRecDepth 100000

theorem side_ok (z : Int) {n : Nat} (h0 : 0 < n) (h1 : n ≤ 1000) : ∃ i : Nat, i < n ∧ IntKind.i64.wrap ((IntKind.u64.wrap z).tmod (IntKind.u64.wrap n)) = (i : Int) ∧ IntKind.u64.wrap (n : Int) ≠ 0 := by
  have e : IntKind.u64.wrap (n : Int) = n := by
    simp [IntKind.wrap, IntKind.signed, IntKind.bits]; omega
  have hm := u64_mod z n (by omega) (by omega)
  rw [e]
  refine ⟨((IntKind.u64.wrap z).tmod n).toNat, by omega, ?_, by omega⟩
  rw [wrap64 (by omega) (by omega)]; omega

theorem eq_agg (a b : Int) : eqS (.agg [.int, .int]) (.agg #[.int .i64 a, .int .i64 b]) (.agg #[.int .i64 a, .int .i64 b]) = some true := by
  simp [eqS, eqList, eqCell]

end Go.Proofs.Ytecncmmkghmojaa.Sh

