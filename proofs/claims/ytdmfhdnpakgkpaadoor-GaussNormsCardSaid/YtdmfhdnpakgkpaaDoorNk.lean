/- Numbers of the chapter: what the functions say of pairs that are none. -/
import Derived.Test.YtdmfhdnpakgkpaaDoorNe
set_option linter.all false
namespace Go.Proofs.YtdmfhdnpakgkpaaDoor.Sh
open Go
set_option maxRecDepth 100000

abbrev agV (p : Int × Int) : Value := .agg #[.int .i64 p.1, .int .i64 p.2]
abbrev bx (p : Int × Int) : SO := .cells [.int .i64 p.1, .int .i64 p.2] 34 true 0 []
abbrev bz : SO := .cells [.int .i64 0, .int .i64 0] 34 true 0 []
abbrev bs (x y : Int × Int) : SO := .cells [.int .i64 x.1, .int .i64 x.2, .int .i64 y.1, .int .i64 y.2] 68 true 0 []
theorem open2 (x y : Int × Int) (h : SHeap) (l : List SO) (k : Nat) (hk : l[k]? = some (bs x y)) : M.call 64 [.slice (some ⟨h.length + k, 0, none⟩) 2 2] (h ++ l) = some (.int .i64 (if Bd 30000 x ∧ Bd 30000 y then 0 else 70), h ++ l, []) := by
  have := open64 (h := h ++ l) (v := .slice (some ⟨h.length + k, 0, none⟩) 2 2) (a := [x, y]) (PS.mk0 (el := 68) (by rw [app_get, hk]; rfl) rfl) (by simp)
  rw [this]
  simp [openE]

end Go.Proofs.YtdmfhdnpakgkpaaDoor.Sh

