/- awake of supply answers true in every world whose package variables stand: what is known of it is known of the program. -/
import Derived.Test.YtpkhkghiidilcaaDoorShAw
import Derived.Test.YtpkhkghiidilcaaDoorShTb
import Derived.Test.YtpkhkghiidilcaaDoorH41
set_option linter.all false
namespace Go.Proofs.YtpkhkghiidilcaaDoor.Sh
open Go Go.RowKit
set_option maxRecDepth 1000000
def CA : FuncId → List Value → Option Value
  | 19, [] => some (.bool true)
  | _, _ => none
noncomputable abbrev M : Rec := big FT (flatK CA)
theorem awake_call (h : SHeap) : M.call 19 [] h = some (.bool true, h, []) := big_known (by rfl)
theorem snd_step {R : Rec} {k : Nat} (S : Sound Tryd.prog R k) : Sound Tryd.prog (stepR FT R) (k + 1) :=
  ⟨call_ok mixed tab S.call S.round S.loop S.ckeep S.rkeep S.lkeep, round_ok mixed S.call S.round S.loop, loop_ok mixed S.call S.round S.loop,
   call_keep S.ckeep S.rkeep S.lkeep, round_keep S.ckeep S.rkeep S.lkeep, loop_keep S.ckeep S.rkeep S.lkeep⟩
theorem awake_known : Known Tryd.prog 19 ∧ Always Tryd.prog 19 [] (.bool true) := by
  have S0 : Sound Tryd.prog noRec 0 := snd 0
  have S1 := snd_step (overN_ok (notes_ok mixed tab (snd 60)) S0)
  have e : (stepR FT (overN notes noRec)).call 19 [] [] = some (.bool true, [], []) := rEq_eq awake_run
  exact always_of S1 (f := 19) (args := []) (v := .bool true) (h' := []) (d' := []) e rfl rfl
theorem CA_ok : ContractOK Tryd.prog CA := by
  intro f args v h
  unfold CA at h
  split at h
  · cases h
    exact ⟨rfl, rfl, awake_known.1, awake_known.2⟩
  · cases h
end Go.Proofs.YtpkhkghiidilcaaDoor.Sh

