/- SluiceLips answers true in every world with its arguments. -/
import Derived.Test.YtioijehbmgmgkaaH47
import Derived.Test.YtioijehbmgmgkaaH48
set_option linter.all false
namespace Go.Proofs.Ytioijehbmgmgkaa
open Go Go.RowKit Sh
set_option maxRecDepth 100000
theorem sluiceLips.walk {v0 : Value} {A0 F0 : List Int} {S0 : List T3} (x1 y1 : Int) (W : World) (h0 : IsBasW W v0 A0 F0 S0) :
    Calls Try.prog 3 #[v0, .agg #[.int .i64 x1, .int .i64 y1]] W (fun e W' => e = .returned (.bool true) ∧ Below W.heap.size W W') := by
  obtain ⟨⟨x0, y0, z0⟩, b0, r0, k0⟩ := bas_arg h0
  obtain ⟨u0, vv0, p0⟩ := k0 [] []
  simp only [List.nil_append, List.append_nil, List.append_assoc] at vv0 p0
  exact walk_rel mixed tab (flatK_ok CA_ok) (Rel.ro (globW W) r0) (LR.cons vv0 (LR.cons (VR.agg2 (.int _ _) (.int _ _)) (LR.nil _))) (law3M p0 x0 y0 z0 x1 y1) rfl
end Go.Proofs.Ytioijehbmgmgkaa

