/- awake of gauss answers true in every world whose package variables stand: what is known of it is known of the program. -/
import Derived.Test.YtdmfhdnpakgkpaaDoorShAw
import Derived.Test.YtdmfhdnpakgkpaaDoorShTb
import Derived.Test.YtdmfhdnpakgkpaaDoorH41
set_option linter.all false
namespace Go.Proofs.YtdmfhdnpakgkpaaDoor.Sh
section
open Go Go.RowKit
set_option maxRecDepth 1000000
def CA : FuncId → List Value → Option Value
 | 22, [] => some (.bool true)
 | _, _ => none
def FT0 : FuncId → Option SFunc
 | 25 => none
 | f => FT f
theorem tab0 : Tab Tryd.prog FT0 := by
 intro f sf h
 unfold FT0 at h
 split at h
 ·cases h
 ·exact tab f sf h
noncomputable abbrev M : Rec := big FT0 (flatK CA)
theorem awake_call (h : SHeap) : M.call 22 [] h = some (.bool true, h, []) := big_known (by rfl)
theorem snd_step {R : Rec} {k : Nat} (S : Sound Tryd.prog R k) : Sound Tryd.prog (stepR FT R) (k + 1) :=
  ⟨call_ok mixed tab S.call S.round S.loop S.ckeep S.rkeep S.lkeep, round_ok mixed S.call S.round S.loop, loop_ok mixed S.call S.round S.loop,
   call_keep S.ckeep S.rkeep S.lkeep, round_keep S.ckeep S.rkeep S.lkeep, loop_keep S.ckeep S.rkeep S.lkeep⟩
theorem awake_known : Known Tryd.prog 22 ∧ Always Tryd.prog 22 [] (.bool true) := by
 have S0 : Sound Tryd.prog noRec 0 := snd 0
 have S1 := snd_step (overN_ok (notes_ok mixed tab (snd 60)) S0)
 have e : (stepR FT (overN notes noRec)).call 22 [] [] = some (.bool true, [], []) := rEq_eq awake_run
 exact always_of S1 (f := 22) (args := []) (v := .bool true) (h' := []) (d' := []) e rfl rfl
theorem CA_ok : ContractOK Tryd.prog CA := by
 intro f args v h
 unfold CA at h
 split at h
 ·cases h
  exact ⟨rfl, rfl, awake_known.1, awake_known.2⟩
 ·cases h
theorem walk_of {f : FuncId} {args : List Value} {v : Value} (hs : M.call f args [] = some (v, [], [])) (ha : args.all (flat 3) = true) (hv : flat 3 v = true) (W : World) (hg : GlobW Tryd.prog W) :
  Calls Tryd.prog f args.toArray W (fun e W' => e = .returned v ∧ Below W.heap.size W W') :=
 callsIn_wide.1 ((always_big mixed tab0 (flatK_ok CA_ok) hs ha hv).2 0 W hg)
end
end Go.Proofs.YtdmfhdnpakgkpaaDoor.Sh
