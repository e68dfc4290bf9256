/- awake of hull answers true in every world: what is known of it is known of the program. -/
import Derived.Test.YtecncmmkghmojaaShTb
import Derived.Test.YtecncmmkghmojaaShAw
import Derived.Test.YtecncmmkghmojaaH1
set_option linter.all false
namespace Go.Proofs.Ytecncmmkghmojaa.Sh
open Go Go.RowKit
set_option maxRecDepth 1000000
theorem snd_step {R : Rec} {k : Nat} (S : Sound Try.prog R k) : Sound Try.prog (stepR FT R) (k + 1) :=
  ⟨call_ok mixed tab S.call S.round S.loop S.ckeep S.rkeep S.lkeep, round_ok mixed S.call S.round S.loop, loop_ok mixed S.call S.round S.loop,
   call_keep S.ckeep S.rkeep S.lkeep, round_keep S.ckeep S.rkeep S.lkeep, loop_keep S.ckeep S.rkeep S.lkeep⟩
theorem awake_known : Known Try.prog 23 ∧ Always Try.prog 23 [] (.bool true) := by
  have S0 : Sound Try.prog noRec 0 := snd 0
  have S1 := snd_step (overN_ok (notes_ok (snd 40)) S0)
  have e : (stepR FT (overN notes noRec)).call 23 [] [] = some (.bool true, [], []) := rEq_eq awake_run
  exact always_of S1 (f := 23) (args := []) (v := .bool true) (h' := []) (d' := []) e rfl rfl
theorem CA_ok : ContractOK Try.prog CA := by
  intro f args v h
  unfold CA at h
  split at h
  · cases h
    exact ⟨rfl, rfl, awake_known.1, awake_known.2⟩
  · cases h
end Go.Proofs.Ytecncmmkghmojaa.Sh

