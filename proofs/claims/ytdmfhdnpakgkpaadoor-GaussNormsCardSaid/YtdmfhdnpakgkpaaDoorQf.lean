/- The machine that knows Rests; GaussRests: the law. -/
import Derived.Test.YtdmfhdnpakgkpaaDoorH20
import Derived.Test.YtdmfhdnpakgkpaaDoorGi
import Derived.Test.YtdmfhdnpakgkpaaDoorGk
import Derived.Test.YtdmfhdnpakgkpaaDoorNq
set_option linter.all false
namespace Go.Proofs.YtdmfhdnpakgkpaaDoor.Sh
open Go Go.RowKit
set_option maxRecDepth 100000
set_option maxHeartbeats 4000000

/-- a number, read from its value -/
def pairV : Value → Option (Int × Int)
  | .agg cs => match cs.toList with
    | [.int .i64 a, .int .i64 b] => some (a, b)
    | _ => none
  | _ => none
theorem pairV_some {v : Value} {p : Int × Int} (h : pairV v = some p) : v = agV p := by
  cases v with
  | agg cs =>
    unfold pairV at h
    dsimp only at h
    split at h
    · rename_i a b e
      cases h
      have : cs = #[.int .i64 a, .int .i64 b] := Array.ext' e
      rw [this]
    · cases h
  | _ => cases h
def restsK : Kn
  | 25, [v], h => match pairV v with
    | some p => some (restsA p h)
    | none => none
  | _, _, _ => none
theorem restsK_ok : KnOK Tryd.prog restsK := by
  refine known_X mixed tab0 (flatK_ok CA_ok) tab (fun f args h r hr => ?_)
  unfold restsK at hr
  split at hr
  · split at hr
    · rename_i p hp
      cases hr
      rw [pairV_some hp]
      exact ⟨sf25, rfl, rfl, rests25X p _⟩
    · cases hr
  · cases hr
/-- the machine with Rests -/
noncomputable abbrev M2 : Rec := big FT0 (bothK (flatK CA) restsK)
theorem lift2 {f : FuncId} {args : List Value} {h : SHeap} {r : Value × SHeap × List Nat} (e : M.call f args h = some r) : M2.call f args h = some r := by
  refine (big_more (FT := FT0) (K1 := flatK CA) (K2 := restsK) (fun f args h _ hk => ?_)).1 _ _ _ _ e
  unfold restsK at hk
  split at hk
  · rfl
  · exact (hk rfl).elim
theorem rests25 (p : Int × Int) (h : SHeap) : M2.call 25 [agV p] h = some (restsA p h) := big_known (by rfl)
theorem awake_call2 (h : SHeap) : M2.call 22 [] h = some (.bool true, h, []) := lift2 (awake_call h)
theorem CA2_ok : KnOK Tryd.prog (bothK (flatK CA) restsK) := bothK_ok (flatK_ok CA_ok) restsK_ok
theorem walk_of2 {f : FuncId} {args : List Value} {v : Value} (hs : M2.call f args [] = some (v, [], [])) (ha : args.all (flat 3) = true) (hv : flat 3 v = true) (W : World) (hg : GlobW Tryd.prog W) :
    Calls Tryd.prog f args.toArray W (fun e W' => e = .returned v ∧ Below W.heap.size W W') :=
  callsIn_wide.1 ((always_big mixed tab0 CA2_ok hs ha hv).2 0 W hg)

end Go.Proofs.YtdmfhdnpakgkpaaDoor.Sh

