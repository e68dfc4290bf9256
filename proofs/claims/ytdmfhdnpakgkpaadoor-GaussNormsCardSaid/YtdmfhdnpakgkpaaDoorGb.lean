/- The package variables of gauss stand in every world that the rows speak of. -/
import Derived.Test.YtdmfhdnpakgkpaaDoorGa
import Derived.Test.YtdmfhdnpakgkpaaDoorRows
import Derived.LaidLaws
import Derived.LaidHandle
set_option linter.all false
namespace Go.Proofs.YtdmfhdnpakgkpaaDoor.Sh
open Go Go.RowKit Go.WideShapes Go.ChangeShapes
set_option maxRecDepth 100000

theorem pair_of {P : Program} {w : World} {fuel : Nat} {t e2 : TypeId} {cs : List Value} {a b : Int} {p : List MemPlace} (he : P.underlying t = some (.array 2 e2)) (hi : P.underlying e2 = some (.int .i64)) (hc : P.cellsOf t = 2) (hc2 : P.cellsOf e2 = 1)
    (h : DataW.trod (fun _ => ()) P w 0 (fun _ => true) false fuel t cs = some (.agg [.lit (.int .i64 a), .lit (.int .i64 b)], p)) : cs = [.int .i64 a, .int .i64 b] := by
  obtain ⟨xs, m, rfl, hx, hl, hxl, hj⟩ := DataW.trod_array he h
  rw [hc] at hl
  rw [hc2] at hj
  match xs, hxl with
  | [x0, x1], _ =>
    simp only [Prod.mk.injEq, DataW.agg.injEq, List.map_cons, List.map_nil, List.cons.injEq, and_true] at hx
    match cs, hl with
    | [c0, c1], _ =>
      have j0 := hj 0 (by omega)
      have j1 := hj 1 (by omega)
      simp only [Nat.zero_mul, Nat.one_mul, List.drop_zero, List.drop_succ_cons, List.take_succ_cons, List.take_zero, List.getElem?_cons_zero, List.getElem?_cons_succ] at j0 j1
      obtain ⟨n0, e0, f0, _⟩ := DataW.trod_int hi j0
      obtain ⟨n1, e1, f1, _⟩ := DataW.trod_int hi j1
      simp only [List.cons.injEq, and_true] at e0 e1
      rw [e0, e1]
      have g0 := hx.1.1
      have g1 := hx.1.2
      rw [f0] at g0
      rw [f1] at g1
      simp only [DataW.lit.injEq, Lit.int.injEq, true_and] at g0 g1
      rw [g0, g1]

theorem zeroN : Tryd.prog.globalNamed "careen/gauss.zero" = some 0 := by kernel_rfl
theorem oneN : Tryd.prog.globalNamed "careen/gauss.one" = some 1 := by kernel_rfl
theorem only : ((List.range Tryd.prog.globals.size).all fun g => (laidG Tryd.prog g).isNone || Nat.beq g 0 || Nat.beq g 1) = true := by kernel_rfl
theorem laid0 : laidG Tryd.prog 0 = some [.int .i64 0, .int .i64 0] := by kernel_rfl
theorem laid1 : laidG Tryd.prog 1 = some [.int .i64 1, .int .i64 0] := by kernel_rfl
theorem ty0 : (Tryd.prog.globals[0]?).map (·.type) = some 68 := by kernel_rfl
theorem ty1 : (Tryd.prog.globals[1]?).map (·.type) = some 68 := by kernel_rfl

theorem u68 : Tryd.prog.underlying 68 = some (.array 2 3) := by kernel_rfl
theorem u3 : Tryd.prog.underlying 3 = some (.int .i64) := by kernel_rfl
theorem cells68 : Tryd.prog.cellsOf 68 = 2 := by kernel_rfl
theorem cells3 : Tryd.prog.cellsOf 3 = 1 := by kernel_rfl

theorem var_heap {P : Program} {w : World} {n : String} {g : Nat} {cs : Array Value} (hg : P.globalNamed n = some g) (h : w.var? P n = some cs) : ∃ el fr, w.heap[g]? = some (.cells cs el fr) := by
  simp only [World.var?, hg, Option.bind_some] at h
  split at h
  · rename_i c el fr hh; cases h; exact ⟨el, fr, hh⟩
  · cases h

/-- what the rows' condition says of the variables -/
theorem glob_of_laid {W : World} (h : laidMetH Tryd.prog [("careen/gauss.zero", Rows.laid_careen_gauss_zero), ("careen/gauss.one", Rows.laid_careen_gauss_one)] W) : GlobW Tryd.prog W := by
  have h' : laidMet Tryd.prog [("careen/gauss.zero", Rows.laid_careen_gauss_zero), ("careen/gauss.one", Rows.laid_careen_gauss_one)] W := h
  obtain ⟨ps, hl, _, _⟩ := h'
  obtain ⟨g0, t0, cs0, f0, p0, q0, a1, a2, a3, a4, hl1, _⟩ := hl
  obtain ⟨g1, t1, cs1, f1, p1, q1, b1, b2, b3, b4, _, _⟩ := hl1
  obtain rfl := Option.some.inj (zeroN.symm.trans a1)
  obtain rfl := Option.some.inj (oneN.symm.trans b1)
  obtain rfl := Option.some.inj (ty0.symm.trans a2)
  obtain rfl := Option.some.inj (ty1.symm.trans b2)
  have c0 := pair_of u68 u3 cells68 cells3 a4
  have c1 := pair_of u68 u3 cells68 cells3 b4
  obtain ⟨el0, fr0, w0⟩ := var_heap zeroN a3
  obtain ⟨el1, fr1, w1⟩ := var_heap oneN b3
  intro g l hg
  have hlt : g < Tryd.prog.globals.size := by
    unfold laidG at hg
    split at hg
    · rename_i v hv; exact (Array.getElem?_eq_some_iff.1 hv).1
    · cases hg
  have ho := List.all_eq_true.1 only g (List.mem_range.2 hlt)
  rw [hg] at ho
  simp only [Option.isNone_some, Bool.false_or, Bool.or_eq_true, Nat.beq_eq] at ho
  rcases ho with rfl | rfl
  · rw [laid0] at hg; cases hg
    exact ⟨(Array.getElem?_eq_some_iff.1 w0).1, el0, fr0, by rw [w0, ← c0]⟩
  · rw [laid1] at hg; cases hg
    exact ⟨(Array.getElem?_eq_some_iff.1 w1).1, el1, fr1, by rw [w1, ← c1]⟩
end Go.Proofs.YtdmfhdnpakgkpaaDoor.Sh

