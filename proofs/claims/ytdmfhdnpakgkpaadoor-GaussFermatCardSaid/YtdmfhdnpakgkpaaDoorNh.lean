/- Numbers up to 5000: worked out by the kernel. -/
import Derived.Test.YtdmfhdnpakgkpaaDoorNg
set_option linter.all false
namespace Go.Proofs.YtdmfhdnpakgkpaaDoor.Sh
open Go
theorem chk0 : chkR 1 1000 = true := by decide +kernel
theorem chk1 : chkR 1001 1000 = true := by decide +kernel
theorem chk2 : chkR 2001 1000 = true := by decide +kernel
theorem chk3 : chkR 3001 1000 = true := by decide +kernel
theorem chk4 : chkR 4001 1000 = true := by decide +kernel
theorem chk_all {n : Nat} (h1 : 1 ≤ n) (h2 : n ≤ 5000) : chk n = true := by
  by_cases c0 : n < 1001
  · exact chkR_ok 1000 chk0 n (by omega) (by omega)
  · by_cases c1 : n < 2001
    · exact chkR_ok 1000 chk1 n (by omega) (by omega)
    · by_cases c2 : n < 3001
      · exact chkR_ok 1000 chk2 n (by omega) (by omega)
      · by_cases c3 : n < 4001
        · exact chkR_ok 1000 chk3 n (by omega) (by omega)
        · exact chkR_ok 1000 chk4 n (by omega) (by omega)
end Go.Proofs.YtdmfhdnpakgkpaaDoor.Sh

