/- Numbers of the chapter: the first of the associates. -/
import Derived.Test.YtdmfhdnpakgkpaaDoorNk
set_option linter.all false
/- Numbers of the chapter: the first of the associates. -/
namespace Go.Proofs.YtdmfhdnpakgkpaaDoor.Sh
open Go
set_option maxRecDepth 100000

/-- is this the first of the associates? -/
def isF (p : Int × Int) : Prop := 0 < p.1 ∧ 0 ≤ p.2
instance (p : Int × Int) : Decidable (isF p) := by unfold isF; exact inferInstance
theorem mul_one (p : Int × Int) : mulP p (1, 0) = p := by unfold mulP; refine Prod.ext ?_ ?_ <;> dsimp only <;> omega
def rfA73_0 : SCode := (.region 0 [ ⟨(some 4), none, .alloc 68 true [(.int .i64 0), (.int .i64 0)], none, 0, false, []⟩, ⟨none, none, .store 2 (.tmp 4) (.tmp 7), none, 1, false, []⟩])
def rfB73_0 : SCode := (.block 1 (.seq (.region 0 [ ⟨(some 8), none, .load (some 2) (.tmp 1), none, 0, false, []⟩, ⟨(some 9), none, .load (some 2) (.tmp 4), none, 1, false, []⟩, ⟨(some 10), none, .call (.func 65) [(.tmp 8), (.tmp 9)], none, 2, false, []⟩, ⟨(some 5), none, .alloc 68 true [(.int .i64 0), (.int .i64 0)], none, 3, false, []⟩, ⟨none, none, .store 2 (.tmp 5) (.tmp 10), none, 4, false, []⟩]) (.seq (.region 0 [ ⟨(some 11), none, .idxArr 2 1 (.tmp 5) (.const (.int .i64 0)), none, 0, false, []⟩, ⟨(some 12), none, .load none (.tmp 11), none, 1, false, []⟩, ⟨(some 13), none, .bin .gtr (.tmp 12) (.const (.int .i64 0)), none, 2, false, []⟩, ⟨(some 14), none, .mov (.tmp 13), none, 3, false, []⟩, ⟨(some 15), none, .idxArr 2 1 (.tmp 5) (.const (.int .i64 1)), some (14, true), 4, false, []⟩, ⟨(some 16), none, .load none (.tmp 15), some (14, true), 5, false, []⟩, ⟨(some 17), none, .bin .geq (.tmp 16) (.const (.int .i64 0)), some (14, true), 6, false, []⟩, ⟨(some 18), none, .pick (.tmp 14) (.tmp 17) (.const (.bool false)), none, 7, false, []⟩]) (.cond (.tmp 18) (.seq (.region 0 [ ⟨(some 19), none, .load (some 2) (.tmp 5), none, 0, true, []⟩, ⟨(some 20), none, .load (some 2) (.tmp 4), none, 1, true, []⟩, ⟨(some 21), none, .call (.func 78) [(.tmp 20)], none, 2, false, [0]⟩, ⟨none, none, .store 2 (.tmp 2) (.tmp 19), none, 3, false, []⟩, ⟨none, none, .store 2 (.tmp 3) (.tmp 21), none, 4, false, []⟩]) (.ret)) (.skip)))))

/-- the state of the range in first: n is the caller's base -/
structure JF (n : Nat) (x : Int × Int) (t : T) (H hh : SHeap) : Prop where
  len : n + 5 ≤ hh.length
  low : ∀ j, j < n → hh[j]? = H[j]?
  c0 : hh[n]? = some (.cells [.int .i64 x.1, .int .i64 x.2] 68 true 0 [])
  c1 : hh[n + 1]? = some (.cells [.int .i64 0, .int .i64 0] 68 true 0 [])
  c2 : hh[n + 2]? = some (.cells [.int .i64 0, .int .i64 0] 68 true 0 [])
  df : hh[n + 3]? = some .deferred
  lp : hh[n + 4]? = some (.loop 0 73 t [7] rfA73_0 rfB73_0 none (n + 3))
/-- its end -/
structure JG (n : Nat) (x u : Int × Int) (t : T) (H hh : SHeap) : Prop where
  len : n + 5 ≤ hh.length
  low : ∀ j, j < n → hh[j]? = H[j]?
  c1 : hh[n + 1]? = some (.cells [.int .i64 (mulP x u).1, .int .i64 (mulP x u).2] 68 true 0 [])
  c2 : hh[n + 2]? = some (.cells [.int .i64 (conjP u).1, .int .i64 (conjP u).2] 68 true 0 [])
  df : hh[n + 3]? = some .deferred
  lp : hh[n + 4]? = some (.loop 2 73 t [7] rfA73_0 rfB73_0 (some .ret) (n + 3))

end Go.Proofs.YtdmfhdnpakgkpaaDoor.Sh


/- Numbers of the chapter: the units in turn, and the first of the associates. -/
namespace Go.Proofs.YtdmfhdnpakgkpaaDoor.Sh
open Go
set_option maxRecDepth 100000

end Go.Proofs.YtdmfhdnpakgkpaaDoor.Sh


/- Numbers of the chapter: the first of the associates, the program's and the document's. -/
namespace Go.Proofs.YtdmfhdnpakgkpaaDoor.Sh
open Go
set_option maxRecDepth 100000

theorem JF.cut {n : Nat} {x : Int × Int} {t : T} {H h : SHeap} (J : JF n x t H h) : JF n x t H (h.take (n + 5)) := by
  have jl := J.len
  have key : ∀ j, j < n + 5 → (h.take (n + 5))[j]? = h[j]? := fun j hj => by rw [List.getElem?_take, if_pos hj]
  exact ⟨by simp; omega, fun j hj => by rw [key j (by omega)]; exact J.low j hj, by rw [key _ (by omega)]; exact J.c0, by rw [key _ (by omega)]; exact J.c1, by rw [key _ (by omega)]; exact J.c2, by rw [key _ (by omega)]; exact J.df, by rw [key _ (by omega)]; exact J.lp⟩
theorem JG.cut {n : Nat} {x u : Int × Int} {t : T} {H h : SHeap} (J : JG n x u t H h) : JG n x u t H (h.take (n + 5)) := by
  have jl := J.len
  have key : ∀ j, j < n + 5 → (h.take (n + 5))[j]? = h[j]? := fun j hj => by rw [List.getElem?_take, if_pos hj]
  exact ⟨by simp; omega, fun j hj => by rw [key j (by omega)]; exact J.low j hj, by rw [key _ (by omega)]; exact J.c1, by rw [key _ (by omega)]; exact J.c2, by rw [key _ (by omega)]; exact J.df, by rw [key _ (by omega)]; exact J.lp⟩

end Go.Proofs.YtdmfhdnpakgkpaaDoor.Sh


/- Numbers: First, Divides and the greatest common divisor, the program's and the document's. -/
namespace Go.Proofs.YtdmfhdnpakgkpaaDoor.Sh
open Go
set_option maxRecDepth 100000

end Go.Proofs.YtdmfhdnpakgkpaaDoor.Sh


/- Numbers: First of the document; Divides, the program's and the document's. -/
namespace Go.Proofs.YtdmfhdnpakgkpaaDoor.Sh
open Go
set_option maxRecDepth 100000

theorem one_mul (p : Int × Int) : mulP (1, 0) p = p := by unfold mulP; refine Prod.ext ?_ ?_ <;> dsimp only <;> omega

theorem eqZ (p : Int × Int) : eqS (.agg [.int, .int]) (.agg #[.int .i64 p.1, .int .i64 p.2]) (.agg #[.int .i64 0, .int .i64 0]) = some (decide (p = (0, 0))) := eqP p (0, 0)
attribute [go_sem ↓ high] eqZ
end Go.Proofs.YtdmfhdnpakgkpaaDoor.Sh


