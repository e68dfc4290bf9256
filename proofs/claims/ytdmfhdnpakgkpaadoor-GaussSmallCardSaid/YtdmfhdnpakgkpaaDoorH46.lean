/- The package variables of gauss stand in every world that the rows speak of. -/
import Derived.Test.YtdmfhdnpakgkpaaDoorH45
import Derived.Test.YtdmfhdnpakgkpaaDoorRows
import Derived.LaidLaws
import Derived.LaidHandle
import Derived.Test.YtdmfhdnpakgkpaaDoorH41
import Derived.Test.YtdmfhdnpakgkpaaDoorH42
set_option linter.all false
namespace Go.Proofs.YtdmfhdnpakgkpaaDoor.Sh
section
open Go Go.RowKit Go.WideShapes Go.ChangeShapes
set_option maxRecDepth 100000
theorem pair_of {P : Program} {w : World} {fuel : Nat} {t e2 : TypeId} {cs : List Value} {a b : Int} {p : List MemPlace} (he : P.underlying t = some (.array 2 e2)) (hi : P.underlying e2 = some (.int .i64)) (hc : P.cellsOf t = 2) (hc2 : P.cellsOf e2 = 1)
  (h : DataW.trod (fun _ => ()) P w 0 (fun _ => true) false fuel t cs = some (.agg [.lit (.int .i64 a), .lit (.int .i64 b)], p)) : cs = [.int .i64 a, .int .i64 b] := by
 obtain ⟨xs, m, rfl, hx, hl, hxl, hj⟩ := DataW.trod_array he h
 rw [hc] at hl
 rw [hc2] at hj
 match xs, hxl with
 | [x0, x1], _ =>
  simp only [Prod.mk.injEq, DataW.agg.injEq, List.map_cons, List.map_nil, List.cons.injEq, and_true] at hx
  match cs, hl with
  | [c0, c1], _ =>
   have j0 := hj 0 (by omega)
   have j1 := hj 1 (by omega)
   simp only [Nat.zero_mul, Nat.one_mul, List.drop_zero, List.drop_succ_cons, List.take_succ_cons, List.take_zero, List.getElem?_cons_zero, List.getElem?_cons_succ] at j0 j1
   obtain ⟨n0, e0, f0, _⟩ := DataW.trod_int hi j0
   obtain ⟨n1, e1, f1, _⟩ := DataW.trod_int hi j1
   simp only [List.cons.injEq, and_true] at e0 e1
   rw [e0, e1]
   have g0 := hx.1.1
   have g1 := hx.1.2
   rw [f0] at g0
   rw [f1] at g1
   simp only [DataW.lit.injEq, Lit.int.injEq, true_and] at g0 g1
   rw [g0, g1]
theorem zeroN : Tryd.prog.globalNamed "careen/gauss.zero" = some 0 := by kernel_rfl
theorem oneN : Tryd.prog.globalNamed "careen/gauss.one" = some 1 := by kernel_rfl
theorem only : ((List.range Tryd.prog.globals.size).all fun g => (laidG Tryd.prog g).isNone || Nat.beq g 0 || Nat.beq g 1) = true := by kernel_rfl
theorem laid0 : laidG Tryd.prog 0 = some [.int .i64 0, .int .i64 0] := by kernel_rfl
theorem laid1 : laidG Tryd.prog 1 = some [.int .i64 1, .int .i64 0] := by kernel_rfl
theorem ty0 : (Tryd.prog.globals[0]?).map (·.type) = some 68 := by kernel_rfl
theorem ty1 : (Tryd.prog.globals[1]?).map (·.type) = some 68 := by kernel_rfl
theorem u68 : Tryd.prog.underlying 68 = some (.array 2 3) := by kernel_rfl
theorem u3 : Tryd.prog.underlying 3 = some (.int .i64) := by kernel_rfl
theorem cells68 : Tryd.prog.cellsOf 68 = 2 := by kernel_rfl
theorem cells3 : Tryd.prog.cellsOf 3 = 1 := by kernel_rfl
theorem var_heap {P : Program} {w : World} {n : String} {g : Nat} {cs : Array Value} (hg : P.globalNamed n = some g) (h : w.var? P n = some cs) : ∃ el fr, w.heap[g]? = some (.cells cs el fr) := by
 simp only [World.var?, hg, Option.bind_some] at h
 split at h
 ·rename_i c el fr hh; cases h; exact ⟨el, fr, hh⟩
 ·cases h
theorem glob_of_laid {W : World} (h : laidMetH Tryd.prog [("careen/gauss.zero", Rows.laid_careen_gauss_zero), ("careen/gauss.one", Rows.laid_careen_gauss_one)] W) : GlobW Tryd.prog W := by
 have h' : laidMet Tryd.prog [("careen/gauss.zero", Rows.laid_careen_gauss_zero), ("careen/gauss.one", Rows.laid_careen_gauss_one)] W := h
 obtain ⟨ps, hl, _, _⟩ := h'
 obtain ⟨g0, t0, cs0, f0, p0, q0, a1, a2, a3, a4, hl1, _⟩ := hl
 obtain ⟨g1, t1, cs1, f1, p1, q1, b1, b2, b3, b4, _, _⟩ := hl1
 obtain rfl := Option.some.inj (zeroN.symm.trans a1)
 obtain rfl := Option.some.inj (oneN.symm.trans b1)
 obtain rfl := Option.some.inj (ty0.symm.trans a2)
 obtain rfl := Option.some.inj (ty1.symm.trans b2)
 have c0 := pair_of u68 u3 cells68 cells3 a4
 have c1 := pair_of u68 u3 cells68 cells3 b4
 obtain ⟨el0, fr0, w0⟩ := var_heap zeroN a3
 obtain ⟨el1, fr1, w1⟩ := var_heap oneN b3
 intro g l hg
 have hlt : g < Tryd.prog.globals.size := by
  unfold laidG at hg
  split at hg
  ·rename_i v hv; exact (Array.getElem?_eq_some_iff.1 hv).1
  ·cases hg
 have ho := List.all_eq_true.1 only g (List.mem_range.2 hlt)
 rw [hg] at ho
 simp only [Option.isNone_some, Bool.false_or, Bool.or_eq_true, Nat.beq_eq] at ho
 rcases ho with rfl | rfl
 ·rw [laid0] at hg; cases hg
  exact ⟨(Array.getElem?_eq_some_iff.1 w0).1, el0, fr0, by rw [w0, ← c0]⟩
 ·rw [laid1] at hg; cases hg
  exact ⟨(Array.getElem?_eq_some_iff.1 w1).1, el1, fr1, by rw [w1, ← c1]⟩
end
end Go.Proofs.YtdmfhdnpakgkpaaDoor.Sh
namespace Go.Proofs.YtdmfhdnpakgkpaaDoor.Sh
section
open Go
set_option maxRecDepth 100000
end
end Go.Proofs.YtdmfhdnpakgkpaaDoor.Sh
namespace Go.Proofs.YtdmfhdnpakgkpaaDoor.Sh
section
open Go
set_option maxRecDepth 100000
theorem u64_mod' (z n : Int) (h0 : 0 < n) : 0 ≤ (IntKind.u64.wrap z).tmod n ∧ (IntKind.u64.wrap z).tmod n < n := by
 have hu : 0 ≤ IntKind.u64.wrap z := by
  simp only [IntKind.wrap, IntKind.signed, Bool.false_eq_true, if_false]
  exact Int.emod_nonneg _ (by decide)
 rw [Int.tmod_eq_emod_of_nonneg hu]
 exact ⟨Int.emod_nonneg _ (by omega), Int.emod_lt_of_pos _ h0⟩
end
end Go.Proofs.YtdmfhdnpakgkpaaDoor.Sh
namespace Go.Proofs.YtdmfhdnpakgkpaaDoor.Sh
section
open Go
set_option maxRecDepth 100000
def sqAt (n a : Nat) : List (Int × Int) := match (List.range (n + 1)).find? (fun b => a * a + b * b == n) with
 | some b => [((a : Int), (b : Int))]
 | none => []
def sqL (n k : Nat) : List (Int × Int) := (List.range k).flatMap (sqAt n)
theorem sq_mono {b c : Nat} (h : b < c) : b * b < c * c := Nat.mul_self_lt_mul_self h
theorem sq_self (b : Nat) : b ≤ b * b := Nat.le_mul_self b
theorem sqAt_yes {n a b : Nat} (h : a * a + b * b = n) : sqAt n a = [((a : Int), (b : Int))] := by
 unfold sqAt
 have hb := sq_self b
 have : (List.range (n + 1)).find? (fun b => a * a + b * b == n) = some b := by
  rw [List.find?_range_eq_some]
  refine ⟨by simpa using h, by simp; omega, fun j hj => ?_⟩
  have := sq_mono hj
  simp; omega
 rw [this]
theorem sqAt_no {n a : Nat} (h : ∀ b, a * a + b * b ≠ n) : sqAt n a = [] := by
 unfold sqAt
 have : (List.range (n + 1)).find? (fun b => a * a + b * b == n) = none := by
  rw [List.find?_eq_none]
  intro x _
  simpa using h x
 rw [this]
def many (p : Int × Int) : Int := if p.2 = 0 then 1 else if p.1 = 0 ∨ p.1 = p.2 then 4 else 8
end
end Go.Proofs.YtdmfhdnpakgkpaaDoor.Sh
namespace Go.Proofs.YtdmfhdnpakgkpaaDoor.Sh
section
open Go
set_option maxRecDepth 100000
theorem mul_w {a b : Nat} (ha : a ≤ 2000000001) (hb : b ≤ 2000000001) : IntKind.i64.wrap ((a : Int) * b) = ((a * b : Nat) : Int) := by
 have h1 : a * b ≤ 2000000001 * 2000000001 := Nat.mul_le_mul ha hb
 rw [← Int.natCast_mul, wrap64 (by omega) (by omega)]
theorem add_w {x y : Nat} (hx : x ≤ 4000000004000000001) (hy : y ≤ 4000000004000000001) : IntKind.i64.wrap ((x : Int) + y) = ((x + y : Nat) : Int) := by
 rw [wrap64 (by omega) (by omega)]; rfl
theorem sq_le {b : Nat} (hb : b ≤ 2000000001) : b * b ≤ 4000000004000000001 := Nat.le_trans (Nat.mul_le_mul hb hb) (by decide)
end
end Go.Proofs.YtdmfhdnpakgkpaaDoor.Sh
namespace Go.Proofs.YtdmfhdnpakgkpaaDoor.Sh
section
open Go
set_option maxRecDepth 100000
def topA (n : Nat) : Nat := ((List.range (n + 2)).find? fun a => decide (n < 2 * a * a)).getD 0
def sqs (n : Nat) : List (Int × Int) := sqL n (topA n)
end
end Go.Proofs.YtdmfhdnpakgkpaaDoor.Sh
namespace Go.Proofs.YtdmfhdnpakgkpaaDoor.Sh
section
open Go
set_option maxRecDepth 100000
end
end Go.Proofs.YtdmfhdnpakgkpaaDoor.Sh
namespace Go.Proofs.YtdmfhdnpakgkpaaDoor.Sh
section
open Go
set_option maxRecDepth 100000
def cel (p : Int × Int) : SO := .cells [.int .i64 p.1, .int .i64 p.2] 53 true 0 []
theorem eqP (p q : Int × Int) : eqS (.agg [.int, .int]) (.agg #[.int .i64 p.1, .int .i64 p.2]) (.agg #[.int .i64 q.1, .int .i64 q.2]) = some (decide (p = q)) := by
 rw [eqS_aggr]
 show eqList [.int, .int] [.int .i64 p.1, .int .i64 p.2] [.int .i64 q.1, .int .i64 q.2] = _
 rw [eqL_cons, eqL_cons, eqL_nil]
 by_cases h1 : p.1 = q.1
 ·by_cases h2 : p.2 = q.2
  ·rw [if_pos h1, if_pos h2, decide_eq_true (Prod.ext h1 h2)]
  ·rw [if_pos h1, if_neg h2, decide_eq_false (fun e => h2 (by rw [e]))]
 ·rw [if_neg h1, decide_eq_false (fun e => h1 (by rw [e]))]
attribute [go_sem ↓ high] eqP
theorem PS.mk0 {h : SHeap} {b n c : Nat} {l : List (Int × Int)} {el : TypeId} (hb : h[b]? = some (.cells (prs l) el true 0 [])) (hn : n = l.length) : PS h (.slice (some ⟨b, 0, none⟩) n c) l :=
 ⟨_, _, by rw [hn], fun _ => ⟨_, _, rfl, Prs.mk0 hb rfl⟩⟩
end
end Go.Proofs.YtdmfhdnpakgkpaaDoor.Sh
namespace Go.Proofs.YtdmfhdnpakgkpaaDoor.Sh
section
open Go
set_option maxRecDepth 100000
end
end Go.Proofs.YtdmfhdnpakgkpaaDoor.Sh
namespace Go.Proofs.YtdmfhdnpakgkpaaDoor.Sh
section
open Go
set_option maxRecDepth 100000
theorem resH_pre (h : SHeap) (cs : List Value) (n : Nat) (el : TypeId) : ∃ g, resH h cs n el = h ++ g := by
 unfold resH; split
 ·exact ⟨[], by simp⟩
 ·exact ⟨_, rfl⟩
theorem PS.ofRes (h g : SHeap) (L : List (Int × Int)) (el : TypeId) : PS (resH h (prs L) L.length el ++ g) (resV h L.length 2) L := by
 by_cases hn : L.length = 0
 ·have : L = [] := List.length_eq_zero_iff.1 hn
  subst this
  exact ⟨none, 0, rfl, fun h => (h rfl).elim⟩
 ·simp only [resH, resV, hn, if_false]
  rw [List.append_assoc]
  exact PS.mk0 (el := el) (by rw [app_get0]; rfl) rfl
end
end Go.Proofs.YtdmfhdnpakgkpaaDoor.Sh
namespace Go.Proofs.YtdmfhdnpakgkpaaDoor.Sh
section
open Go
set_option maxRecDepth 100000
end
end Go.Proofs.YtdmfhdnpakgkpaaDoor.Sh
namespace Go.Proofs.YtdmfhdnpakgkpaaDoor.Sh
section
open Go
set_option maxRecDepth 100000
def Bd (A : Int) (p : Int × Int) : Prop := -A ≤ p.1 ∧ p.1 ≤ A ∧ -A ≤ p.2 ∧ p.2 ≤ A
instance (A : Int) (p : Int × Int) : Decidable (Bd A p) := by unfold Bd; exact inferInstance
theorem Bd.mono {A B : Int} {p : Int × Int} (h : Bd A p) (hab : A ≤ B) : Bd B p := by unfold Bd at *; omega
theorem mul_bd {a c A C : Int} (h1 : -A ≤ a) (h2 : a ≤ A) (h3 : -C ≤ c) (h4 : c ≤ C) : -(A * C) ≤ a * c ∧ a * c ≤ A * C := by
 have hA : 0 ≤ A := by omega
 have hC : 0 ≤ C := by omega
 have e1 : a.natAbs ≤ A.toNat := by omega
 have e2 : c.natAbs ≤ C.toNat := by omega
 have e3 := Nat.mul_le_mul e1 e2
 rw [← Int.natAbs_mul] at e3
 have e4 : ((A.toNat * C.toNat : Nat) : Int) = A * C := by
  rw [Int.natCast_mul, Int.toNat_of_nonneg hA, Int.toNat_of_nonneg hC]
 omega
def nrm (p : Int × Int) : Int := p.1 * p.1 + p.2 * p.2
def mulP (p q : Int × Int) : Int × Int := (p.1 * q.1 - p.2 * q.2, p.1 * q.2 + p.2 * q.1)
def subP (p q : Int × Int) : Int × Int := (p.1 - q.1, p.2 - q.2)
def addP (p q : Int × Int) : Int × Int := (p.1 + q.1, p.2 + q.2)
def conjP (p : Int × Int) : Int × Int := (p.1, -p.2)
def quoP (x y : Int × Int) : Int × Int := ((2 * (mulP x (conjP y)).1 + nrm y) / (2 * nrm y), (2 * (mulP x (conjP y)).2 + nrm y) / (2 * nrm y))
def restP (x y : Int × Int) : Int × Int := subP x (mulP (quoP x y) y)
theorem isIn66 (p : Int × Int) (h : SHeap) : M.call 66 [.agg #[.int .i64 p.1, .int .i64 p.2]] h = some (.bool (decide (Bd 30000 p)), h, []) := by
 refine call_run sf66 rfl rfl rfl ?_
 unfold sf66
 have hd : decide (Bd 30000 p) = (decide (-30000 ≤ (if p.2 < p.1 then p.2 else p.1)) && decide ((if p.1 < p.2 then p.2 else p.1) ≤ 30000)) := by
  rw [Bool.eq_iff_iff, decide_eq_true_iff, Bool.and_eq_true, decide_eq_true_iff, decide_eq_true_iff]
  unfold Bd
  split <;> split <;> constructor <;> intro hh <;> omega
 by_cases c1 : -30000 ≤ (if p.2 < p.1 then p.2 else p.1)
 ·rw [hd, decide_eq_true c1, Bool.true_and]
  repeat (first | apply Z1 | apply Z2 | apply Z3 | apply Z4 | apply Z5 rfl | apply Z6 | apply Z7 | apply Z8 | apply Z9 | apply ZA | apply ZB | apply ZC | ((first | apply ZD (by decide) | apply ZN (by decide)); (simp (maxSteps := 9999999) only [go_sem, argR, c1]; rfl)) | (refine ZE ?_ ?_; · simp only [go_sem]) | (refine ZF ?_ ?_; · simp only [go_sem]))
  exact end_nil (q_ret1 _ (by simp only [go_sem]) rfl (take_app _ _))
 ·rw [hd, decide_eq_false c1, Bool.false_and]
  repeat (first | apply Z1 | apply Z2 | apply Z3 | apply Z4 | apply Z5 rfl | apply Z6 | apply Z7 | apply Z8 | apply Z9 | apply ZA | apply ZB | apply ZC | ((first | apply ZD (by decide) | apply ZN (by decide)); (simp (maxSteps := 9999999) only [go_sem, argR, c1]; rfl)) | (refine ZE ?_ ?_; · simp only [go_sem]) | (refine ZF ?_ ?_; · simp only [go_sem]))
  exact end_nil (q_ret1 _ (by simp only [go_sem]) rfl (take_app _ _))
theorem open_loop (cx : Cx) {h : SHeap} {v : Value} {a : List (Int × Int)} (hv : PS h v a) (hs : a.length < 4611686018427387904) : ∀ k ρ ms h' d', (∃ (i : Nat) (g : SHeap), i + k = a.length ∧ ρ 5 = v ∧ ρ 6 = .int .i64 a.length ∧ ρ 7 = .int .i64 i ∧ (∀ q ∈ a.take i, Bd 30000 q) ∧ ms = [] ∧ h' = h ++ g ∧ d' = []) →
  LoopW M cx 4 sf64L0 ρ ms h' d' (fun ex ρ' ms' h' d' => ms' = [] ∧ (∃ g, h' = h ++ g) ∧ d' = [] ∧ ((ex = .exit 0 ∧ ∀ q ∈ a, Bd 30000 q) ∨ (ex = .ret ∧ ρ' 2 = .int .i64 70 ∧ ¬ ∀ q ∈ a, Bd 30000 q))) := by
 obtain ⟨va, ca, rfl, ka⟩ := hv
 refine loop_run _ ?_
 rintro k ρ ms h' d' ⟨i, g, hi, h5, h6, h7, he, rfl, rfl, rfl⟩
 unfold sf64L0
 by_cases hk : k = 0
 ·have e1 : ¬ ((i : Int) < a.length) := by omega
  have ei : i = a.length := by omega
  repeat (first | apply Z1 | apply Z2 | apply Z3 | apply Z4 | apply Z5 rfl | apply Z6 | apply Z7 | apply Z8 | apply Z9 | apply ZA | apply ZB | apply ZC | ((first | apply ZD (by decide) | apply ZN (by decide)); (simp (maxSteps := 9999999) only [go_sem, h5, h6, h7, e1]; rfl)) | (refine ZE ?_ ?_; · simp only [go_sem]) | (refine ZF ?_ ?_; · simp only [go_sem]))
  refine end_nil ⟨rfl, ⟨g, rfl⟩, rfl, .inl ⟨rfl, ?_⟩⟩
  rw [ei, List.take_length] at he
  exact he
 ·have e1 : (i : Int) < a.length := by omega
  have e2 : (0 : Int) ≤ i := by omega
  have hia : i < a.length := by omega
  have ew : IntKind.i64.wrap ((i : Int) + 1) = ((i + 1 : Nat) : Int) := by rw [wrap64 (by omega) (by omega)]; rfl
  obtain ⟨ba, oa, rfl, pa⟩ := ka (by intro e; rw [e] at hia; simp at hia)
  have l1 := (pa.app g).loadN hia
  have t1 : a.take (i + 1) = a.take i ++ [a[i]] := by rw [List.take_add_one, List.getElem?_eq_getElem hia]; rfl
  have hm : a[i] ∈ a := List.getElem_mem hia
  generalize a[i] = p at *
  by_cases hp : Bd 30000 p
  ·repeat (first | apply Z1 | apply Z2 | apply Z3 | apply Z4 | apply Z5 rfl | apply Z6 | apply Z7 | apply Z8 | apply Z9 | apply ZA | apply ZB | apply ZC | ((first | apply ZD (by decide) | apply ZN (by decide)); (simp (maxSteps := 9999999) only [go_sem, h5, h6, h7, e1, e2, l1, isIn66, hp, ew]; rfl)) | (refine ZE ?_ ?_; · simp only [go_sem]) | (refine ZF ?_ ?_; · simp only [go_sem]))
   refine end_nil ⟨k - 1, by omega, i + 1, _, by omega, ?_, ?_, ?_, ?_, rfl, rfl, rfl⟩
   ·simp only [go_sem, h5]
   ·simp only [go_sem, h6]
   ·simp only [go_sem, ew]
   ·intro q hq
    rw [t1] at hq
    rcases List.mem_append.1 hq with hq | hq
    ·exact he q hq
    ·rw [List.mem_singleton.1 hq]; exact hp
  ·repeat (first | apply Z1 | apply Z2 | apply Z3 | apply Z4 | apply Z5 rfl | apply Z6 | apply Z7 | apply Z8 | apply Z9 | apply ZA | apply ZB | apply ZC | ((first | apply ZD (by decide) | apply ZN (by decide)); (simp (maxSteps := 9999999) only [go_sem, h5, h6, h7, e1, e2, l1, isIn66, hp, ew]; rfl)) | (refine ZE ?_ ?_; · simp only [go_sem]) | (refine ZF ?_ ?_; · simp only [go_sem]))
   refine end_nil ⟨rfl, ⟨_, rfl⟩, rfl, .inr ⟨rfl, ?_, fun h => hp (h p hm)⟩⟩
   simp only [go_sem]
def openE (a : List (Int × Int)) : Int := if ∀ q ∈ a, Bd 30000 q then 0 else 70
theorem open64 {h : SHeap} {v : Value} {a : List (Int × Int)} (hv : PS h v a) (hs : a.length < 4611686018427387904) : M.call 64 [v] h = some (.int .i64 (openE a), h, []) := by
 have hv0 := hv
 obtain ⟨va, ca, rfl, ka⟩ := hv
 refine call_run sf64 rfl rfl rfl ?_
 unfold sf64
 repeat (first | apply Z1 | apply Z2 | apply Z3 | apply Z4 | apply Z5 rfl | apply Z6 | apply Z7 | apply Z8 | apply Z9 | apply ZA | apply ZB | apply ZC | ((first | apply ZD (by decide) | apply ZN (by decide)); (simp (maxSteps := 9999999) only [go_sem, argR]; rfl)) | (refine ZE ?_ ?_; · simp only [go_sem]) | (refine ZF ?_ ?_; · simp only [go_sem]))
 refine run_loop (open_loop _ hv0 hs a.length _ _ _ _ ⟨0, [], by omega, by simp only [go_sem, argR], by simp only [go_sem], by (simp only [go_sem]) <;> rfl, by simp, rfl, by simp, rfl⟩) ?_
 rintro ex ρ' ms' h1 d1 ⟨rfl, ⟨g, rfl⟩, rfl, ⟨rfl, he⟩ | ⟨rfl, h2, he⟩⟩
 ·repeat (first | apply Z1 | apply Z2 | apply Z3 | apply Z4 | apply Z5 rfl | apply Z6 | apply Z7 | apply Z8 | apply Z9 | apply ZA | apply ZB | apply ZC | ((first | apply ZD (by decide) | apply ZN (by decide)); (simp (maxSteps := 9999999) only [go_sem]; rfl)) | (refine ZE ?_ ?_; · simp only [go_sem]) | (refine ZF ?_ ?_; · simp only [go_sem]))
  rw [show openE a = 0 from if_pos he]
  exact end_nil (q_ret1 _ (by simp only [go_sem]) rfl (take_app _ _))
 ·repeat (first | apply Z1 | apply Z2 | apply Z3 | apply Z4 | apply Z5 rfl | apply Z6 | apply Z7 | apply Z8 | apply Z9 | apply ZA | apply ZB | apply ZC | ((first | apply ZD (by decide) | apply ZN (by decide)); (simp (maxSteps := 9999999) only [go_sem]; rfl)) | (refine ZE ?_ ?_; · simp only [go_sem]) | (refine ZF ?_ ?_; · simp only [go_sem]))
  rw [show openE a = 70 from if_neg he]
  exact end_nil (q_ret1 _ (by simp only [go_sem, h2]) rfl (take_app _ _))
end
end Go.Proofs.YtdmfhdnpakgkpaaDoor.Sh
namespace Go.Proofs.YtdmfhdnpakgkpaaDoor.Sh
section
open Go
set_option maxRecDepth 100000
structure MW (p q : Int × Int) : Prop where
 a : IntKind.i64.wrap (p.1 * q.1) = p.1 * q.1
 b : IntKind.i64.wrap (p.2 * q.2) = p.2 * q.2
 c : IntKind.i64.wrap (p.1 * q.2) = p.1 * q.2
 d : IntKind.i64.wrap (p.2 * q.1) = p.2 * q.1
 m : IntKind.i64.wrap (p.1 * q.1 - p.2 * q.2) = (mulP p q).1
 s : IntKind.i64.wrap (p.1 * q.2 + p.2 * q.1) = (mulP p q).2
theorem mw_of {p q : Int × Int} {A C : Int} (hp : Bd A p) (hq : Bd C q) (h : A * C ≤ 2305843009213693952) : MW p q ∧ Bd (2 * (A * C)) (mulP p q) := by
 obtain ⟨p1, p2, p3, p4⟩ := hp
 obtain ⟨q1, q2, q3, q4⟩ := hq
 have m1 := mul_bd p1 p2 q1 q2
 have m2 := mul_bd p3 p4 q3 q4
 have m3 := mul_bd p1 p2 q3 q4
 have m4 := mul_bd p3 p4 q1 q2
 refine ⟨⟨wrap64 (by omega) (by omega), wrap64 (by omega) (by omega), wrap64 (by omega) (by omega), wrap64 (by omega) (by omega), wrap64 (by omega) (by omega), wrap64 (by omega) (by omega)⟩, ?_⟩
 unfold Bd mulP
 dsimp only
 omega
theorem mulP_bd {p q : Int × Int} {A C : Int} (hp : Bd A p) (hq : Bd C q) : Bd (2 * (A * C)) (mulP p q) := by
 obtain ⟨p1, p2, p3, p4⟩ := hp
 obtain ⟨q1, q2, q3, q4⟩ := hq
 have m1 := mul_bd p1 p2 q1 q2
 have m2 := mul_bd p3 p4 q3 q4
 have m3 := mul_bd p1 p2 q3 q4
 have m4 := mul_bd p3 p4 q1 q2
 unfold Bd mulP
 dsimp only
 omega
theorem times65 {p q : Int × Int} {A C : Int} (hp : Bd A p) (hq : Bd C q) (hAC : A * C ≤ 2305843009213693952) (h : SHeap) :
  M.call 65 [.agg #[.int .i64 p.1, .int .i64 p.2], .agg #[.int .i64 q.1, .int .i64 q.2]] h = some (.agg #[.int .i64 (mulP p q).1, .int .i64 (mulP p q).2], h, []) := by
 obtain ⟨w1, w2, w3, w4, w5, w6⟩ := (mw_of hp hq hAC).1
 refine call_run sf65 rfl rfl rfl ?_
 unfold sf65
 repeat (first | apply Z1 | apply Z2 | apply Z3 | apply Z4 | apply Z5 rfl | apply Z6 | apply Z7 | apply Z8 | apply Z9 | apply ZA | apply ZB | apply ZC | ((first | apply ZD (by decide) | apply ZN (by decide)); (simp (maxSteps := 9999999) only [go_sem, argR, w1, w2, w3, w4, w5, w6]; rfl)) | (refine ZE ?_ ?_; · simp only [go_sem]) | (refine ZF ?_ ?_; · simp only [go_sem]))
 exact end_nil (q_cell [.int .i64 (mulP p q).1, .int .i64 (mulP p q).2] (by simp only [go_sem]) rfl ⟨_, by simp only [go_sem]; rfl⟩ (take_app _ _))
theorem sqn (a : Int) : 0 ≤ a * a := by rw [← Int.natAbs_mul_self]; exact Int.natCast_nonneg _
theorem nrm_w {p : Int × Int} {A : Int} (hp : Bd A p) (h : A * A ≤ 2305843009213693952) : IntKind.i64.wrap (p.1 * p.1) = p.1 * p.1 ∧ IntKind.i64.wrap (p.2 * p.2) = p.2 * p.2 ∧ IntKind.i64.wrap (p.1 * p.1 + p.2 * p.2) = nrm p ∧ 0 ≤ nrm p ∧ nrm p ≤ 2 * (A * A) := by
 obtain ⟨p1, p2, p3, p4⟩ := hp
 have m1 := mul_bd p1 p2 p1 p2
 have m2 := mul_bd p3 p4 p3 p4
 have s1 := sqn p.1
 have s2 := sqn p.2
 refine ⟨wrap64 (by omega) (by omega), wrap64 (by omega) (by omega), wrap64 (by omega) (by omega), ?_, ?_⟩
 ·unfold nrm; omega
 ·unfold nrm; omega
theorem norm59 {p : Int × Int} {A : Int} (hp : Bd A p) (hA : A * A ≤ 2305843009213693952) (h : SHeap) :
  M.call 59 [.agg #[.int .i64 p.1, .int .i64 p.2]] h = some (.int .i64 (nrm p), h, []) := by
 obtain ⟨w1, w2, w3, _, _⟩ := nrm_w hp hA
 refine call_run sf59 rfl rfl rfl ?_
 unfold sf59
 repeat (first | apply Z1 | apply Z2 | apply Z3 | apply Z4 | apply Z5 rfl | apply Z6 | apply Z7 | apply Z8 | apply Z9 | apply ZA | apply ZB | apply ZC | ((first | apply ZD (by decide) | apply ZN (by decide)); (simp (maxSteps := 9999999) only [go_sem, argR, w1, w2, w3]; rfl)) | (refine ZE ?_ ?_; · simp only [go_sem]) | (refine ZF ?_ ?_; · simp only [go_sem]))
 exact end_nil (q_ret1 _ (by simp only [go_sem]) rfl (take_app _ _))
theorem minus79 {p q : Int × Int} {A C : Int} (hp : Bd A p) (hq : Bd C q) (hAC : A + C ≤ 4611686018427387904) (h : SHeap) :
  M.call 79 [.agg #[.int .i64 p.1, .int .i64 p.2], .agg #[.int .i64 q.1, .int .i64 q.2]] h = some (.agg #[.int .i64 (subP p q).1, .int .i64 (subP p q).2], h, []) := by
 obtain ⟨p1, p2, p3, p4⟩ := hp
 obtain ⟨q1, q2, q3, q4⟩ := hq
 have w1 : IntKind.i64.wrap (p.1 - q.1) = (subP p q).1 := wrap64 (by omega) (by omega)
 have w2 : IntKind.i64.wrap (p.2 - q.2) = (subP p q).2 := wrap64 (by omega) (by omega)
 refine call_run sf79 rfl rfl rfl ?_
 unfold sf79
 repeat (first | apply Z1 | apply Z2 | apply Z3 | apply Z4 | apply Z5 rfl | apply Z6 | apply Z7 | apply Z8 | apply Z9 | apply ZA | apply ZB | apply ZC | ((first | apply ZD (by decide) | apply ZN (by decide)); (simp (maxSteps := 9999999) only [go_sem, argR, w1, w2]; rfl)) | (refine ZE ?_ ?_; · simp only [go_sem]) | (refine ZF ?_ ?_; · simp only [go_sem]))
 exact end_nil (q_cell [.int .i64 (subP p q).1, .int .i64 (subP p q).2] (by simp only [go_sem]) rfl ⟨_, by simp only [go_sem]; rfl⟩ (take_app _ _))
theorem turned78 {p : Int × Int} {A : Int} (hp : Bd A p) (hA : A ≤ 4611686018427387904) (h : SHeap) :
  M.call 78 [.agg #[.int .i64 p.1, .int .i64 p.2]] h = some (.agg #[.int .i64 (conjP p).1, .int .i64 (conjP p).2], h, []) := by
 obtain ⟨p1, p2, p3, p4⟩ := hp
 have w1 : IntKind.i64.wrap (-p.2) = (conjP p).2 := wrap64 (by omega) (by omega)
 have w2 : p.1 = (conjP p).1 := rfl
 refine call_run sf78 rfl rfl rfl ?_
 unfold sf78
 repeat (first | apply Z1 | apply Z2 | apply Z3 | apply Z4 | apply Z5 rfl | apply Z6 | apply Z7 | apply Z8 | apply Z9 | apply ZA | apply ZB | apply ZC | ((first | apply ZD (by decide) | apply ZN (by decide)); (simp (maxSteps := 9999999) only [go_sem, argR, w1]; rfl)) | (refine ZE ?_ ?_; · simp only [go_sem]) | (refine ZF ?_ ?_; · simp only [go_sem]))
 exact end_nil (q_cell [.int .i64 (conjP p).1, .int .i64 (conjP p).2] (by simp only [go_sem]; rfl) rfl ⟨_, by simp only [go_sem]; rfl⟩ (take_app _ _))
theorem floor_eq {a b : Int} (hb : 0 < b) : (a.tmod b < 0 → a.tdiv b - 1 = a / b) ∧ (¬ a.tmod b < 0 → a.tdiv b = a / b) := by
 have h1 := Int.mul_tdiv_add_tmod a b
 have h2 := Int.tmod_lt_of_pos a hb
 have h3 := Int.lt_tmod_of_pos a hb
 have e0 : a.tdiv b * b = b * a.tdiv b := Int.mul_comm _ _
 constructor
 ·intro h
  refine ((Int.ediv_eq_iff_of_pos hb).2 ?_).symm
  have e : (a.tdiv b - 1) * b = a.tdiv b * b - b := by rw [Int.sub_mul, Int.one_mul]
  omega
 ·intro h
  refine ((Int.ediv_eq_iff_of_pos hb).2 ?_).symm
  omega
theorem ediv_bd {a b A : Int} (hb : 0 < b) (h1 : -A ≤ a) (h2 : a ≤ A) : -A ≤ a / b ∧ a / b ≤ A := by
 have hA : 0 ≤ A := by omega
 constructor
 ·rw [Int.le_ediv_iff_mul_le hb]
  have : A * 1 ≤ A * b := Int.mul_le_mul_of_nonneg_left (by omega) hA
  rw [Int.neg_mul]; omega
 ·by_cases e : 0 ≤ a
  ·have := Int.ediv_le_self b e; omega
  ·have := Int.ediv_neg_of_neg_of_pos (show a < 0 by omega) hb; omega
theorem floor80 {a b A : Int} (hb : 0 < b) (h1 : -A ≤ a) (h2 : a ≤ A) (hA : A ≤ 4611686018427387904) (h : SHeap) :
  M.call 80 [.int .i64 a, .int .i64 b] h = some (.int .i64 (a / b), h, []) := by
 obtain ⟨f1, f2⟩ := floor_eq (a := a) hb
 obtain ⟨b1, b2⟩ := ediv_bd hb h1 h2
 have hb0 : ¬ b = 0 := by omega
 refine call_run sf80 rfl rfl rfl ?_
 unfold sf80
 by_cases c : a.tmod b < 0
 ·have e := f1 c
  have w1 : IntKind.i64.wrap (a.tdiv b) = a.tdiv b := wrap64 (by omega) (by omega)
  have w2 : IntKind.i64.wrap (a.tdiv b - 1) = a / b := by rw [wrap64 (by omega) (by omega), e]
  repeat (first | apply Z1 | apply Z2 | apply Z3 | apply Z4 | apply Z5 rfl | apply Z6 | apply Z7 | apply Z8 | apply Z9 | apply ZA | apply ZB | apply ZC | ((first | apply ZD (by decide) | apply ZN (by decide)); (simp (maxSteps := 9999999) only [go_sem, argR, hb0, c, w1, w2]; rfl)) | (refine ZE ?_ ?_; · simp only [go_sem]) | (refine ZF ?_ ?_; · simp only [go_sem]))
  exact end_nil (q_ret1 _ (by simp only [go_sem]) rfl (take_self _))
 ·have e := f2 c
  have w1 : IntKind.i64.wrap (a.tdiv b) = a / b := by rw [wrap64 (by omega) (by omega), e]
  repeat (first | apply Z1 | apply Z2 | apply Z3 | apply Z4 | apply Z5 rfl | apply Z6 | apply Z7 | apply Z8 | apply Z9 | apply ZA | apply ZB | apply ZC | ((first | apply ZD (by decide) | apply ZN (by decide)); (simp (maxSteps := 9999999) only [go_sem, argR, hb0, c, w1]; rfl)) | (refine ZE ?_ ?_; · simp only [go_sem]) | (refine ZF ?_ ?_; · simp only [go_sem]))
  exact end_nil (q_ret1 _ (by simp only [go_sem]) rfl (take_self _))
end
end Go.Proofs.YtdmfhdnpakgkpaaDoor.Sh
namespace Go.Proofs.YtdmfhdnpakgkpaaDoor.Sh
section
open Go
set_option maxRecDepth 100000
theorem abs_sq (a : Int) : (a.natAbs : Int) ≤ a * a := by
 rw [← Int.natAbs_mul_self]
 exact Int.ofNat_le.2 (Nat.le_mul_self _)
theorem nrm_pos {y : Int × Int} (h : y ≠ (0, 0)) : 1 ≤ nrm y := by
 have s1 := abs_sq y.1
 have s2 := abs_sq y.2
 have : ¬ (y.1 = 0 ∧ y.2 = 0) := fun e => h (Prod.ext e.1 e.2)
 unfold nrm
 omega
theorem mul_nrm {x y : Int × Int} {X : Int} (hx : Bd X x) : -(X * nrm y) ≤ (mulP x (conjP y)).1 ∧ (mulP x (conjP y)).1 ≤ X * nrm y ∧ -(X * nrm y) ≤ (mulP x (conjP y)).2 ∧ (mulP x (conjP y)).2 ≤ X * nrm y := by
 obtain ⟨p1, p2, p3, p4⟩ := hx
 have hX : 0 ≤ X := by omega
 have a1 := Int.mul_le_mul_of_nonneg_left (abs_sq y.1) hX
 have a2 := Int.mul_le_mul_of_nonneg_left (abs_sq y.2) hX
 have m1 := mul_bd p1 p2 (C := y.1.natAbs) (c := y.1) (by omega) (by omega)
 have m2 := mul_bd p3 p4 (C := y.2.natAbs) (c := -y.2) (by omega) (by omega)
 have m3 := mul_bd p1 p2 (C := y.2.natAbs) (c := -y.2) (by omega) (by omega)
 have m4 := mul_bd p3 p4 (C := y.1.natAbs) (c := y.1) (by omega) (by omega)
 have e : X * nrm y = X * (y.1 * y.1) + X * (y.2 * y.2) := by unfold nrm; rw [Int.mul_add]
 unfold mulP conjP
 dsimp only
 omega
theorem near_bd {t n X : Int} (hn : 1 ≤ n) (h1 : -(X * n) ≤ t) (h2 : t ≤ X * n) : -X ≤ (2 * t + n) / (2 * n) ∧ (2 * t + n) / (2 * n) ≤ X := by
 have hn2 : 0 < 2 * n := by omega
 constructor
 ·rw [Int.le_ediv_iff_mul_le hn2]
  have : -X * (2 * n) = -(2 * (X * n)) := by grind
  omega
 ·have : (2 * t + n) / (2 * n) < X + 1 := by
   rw [Int.ediv_lt_iff_lt_mul hn2]
   have : (X + 1) * (2 * n) = 2 * (X * n) + 2 * n := by grind
   omega
  omega
theorem quo_bd {x y : Int × Int} {X : Int} (hx : Bd X x) (hy : 1 ≤ nrm y) : Bd X (quoP x y) := by
 obtain ⟨t1, t2, t3, t4⟩ := mul_nrm (y := y) hx
 have a := near_bd hy t1 t2
 have b := near_bd hy t3 t4
 exact ⟨a.1, a.2, b.1, b.2⟩
theorem nrm_mul (p q : Int × Int) : nrm (mulP p q) = nrm p * nrm q := by
 unfold nrm mulP; dsimp only; grind
theorem nrm_conj (p : Int × Int) : nrm (conjP p) = nrm p := by unfold nrm conjP; dsimp only; grind
theorem near {t n : Int} (hn : 1 ≤ n) : -n ≤ 2 * (t - n * ((2 * t + n) / (2 * n))) ∧ 2 * (t - n * ((2 * t + n) / (2 * n))) ≤ n := by
 have hn2 : 0 < 2 * n := by omega
 have h1 := Int.mul_ediv_self_le (x := 2 * t + n) (k := 2 * n) (by omega)
 have h2 := Int.lt_mul_ediv_self_add (x := 2 * t + n) hn2
 generalize (2 * t + n) / (2 * n) = q at *
 have e : 2 * n * q = 2 * (n * q) := by grind
 omega
theorem rest_nrm {x y : Int × Int} (hy : 1 ≤ nrm y) : 2 * nrm (restP x y) ≤ nrm y := by
 have a := near (t := (mulP x (conjP y)).1) hy
 have b := near (t := (mulP x (conjP y)).2) hy
 have e : mulP (restP x y) (conjP y) = ((mulP x (conjP y)).1 - nrm y * (quoP x y).1, (mulP x (conjP y)).2 - nrm y * (quoP x y).2) := by
  unfold restP
  generalize quoP x y = q
  unfold mulP conjP subP nrm
  dsimp only
  refine Prod.ext ?_ ?_
  ·dsimp only; grind
  ·dsimp only; grind
 have k := nrm_mul (restP x y) (conjP y)
 rw [nrm_conj, e] at k
 unfold quoP at k
 dsimp only at k
 generalize (mulP x (conjP y)).1 - nrm y * ((2 * (mulP x (conjP y)).1 + nrm y) / (2 * nrm y)) = u at *
 generalize (mulP x (conjP y)).2 - nrm y * ((2 * (mulP x (conjP y)).2 + nrm y) / (2 * nrm y)) = v at *
 have c1 := mul_bd (a := 2 * u) (c := 2 * u) (A := nrm y) (C := nrm y) (by omega) (by omega) (by omega) (by omega)
 have c2 := mul_bd (a := 2 * v) (c := 2 * v) (A := nrm y) (C := nrm y) (by omega) (by omega) (by omega) (by omega)
 have c3 : 4 * (nrm (restP x y) * nrm y) ≤ 2 * (nrm y * nrm y) := by
  rw [← k]
  unfold nrm
  dsimp only
  have e1 : 2 * u * (2 * u) = 4 * (u * u) := by grind
  have e2 : 2 * v * (2 * v) = 4 * (v * v) := by grind
  unfold nrm at c1 c2
  omega
 have c4 : (2 * nrm (restP x y)) * nrm y ≤ nrm y * nrm y := by
  have : (2 * nrm (restP x y)) * nrm y = 2 * (nrm (restP x y) * nrm y) := by grind
  omega
 exact Int.le_of_mul_le_mul_right c4 (by omega)
theorem part_bd {p : Int × Int} {A : Int} (hA : 0 ≤ A) (h : nrm p < (A + 1) * (A + 1)) : Bd A p := by
 have key : ∀ a : Int, a * a < (A + 1) * (A + 1) → -A ≤ a ∧ a ≤ A := by
  intro a ha
  have h1 : a.natAbs < (A + 1).toNat := by
   by_cases e : a.natAbs < (A + 1).toNat
   ·exact e
   ·exfalso
    have := Nat.mul_le_mul (show (A + 1).toNat ≤ a.natAbs by omega) (show (A + 1).toNat ≤ a.natAbs by omega)
    rw [← Int.natAbs_mul] at this
    have e2 : (((A + 1).toNat * (A + 1).toNat : Nat) : Int) = (A + 1) * (A + 1) := by
     rw [Int.natCast_mul, Int.toNat_of_nonneg (by omega)]
    have := sqn a
    omega
  omega
 have s1 := sqn p.1
 have s2 := sqn p.2
 unfold nrm at h
 have k1 := key p.1 (by omega)
 have k2 := key p.2 (by omega)
 exact ⟨k1.1, k1.2, k2.1, k2.2⟩
theorem nrm_le {p : Int × Int} {A : Int} (hp : Bd A p) : nrm p ≤ 2 * (A * A) := by
 obtain ⟨p1, p2, p3, p4⟩ := hp
 have m1 := mul_bd p1 p2 p1 p2
 have m2 := mul_bd p3 p4 p3 p4
 unfold nrm; omega
theorem rest_bd {x y : Int × Int} {Y : Int} (hy : 1 ≤ nrm y) (hY : Bd Y y) : Bd Y (restP x y) := by
 have h1 := rest_nrm (x := x) hy
 have h2 := nrm_le hY
 have hY0 : 0 ≤ Y := by obtain ⟨a, b, _⟩ := hY; omega
 refine part_bd hY0 ?_
 have : (Y + 1) * (Y + 1) = Y * Y + 2 * Y + 1 := by grind
 omega
theorem q_cell2 {base : Nat} {i j n m : Nat} {ρ : Reg} {h h0 : SHeap} (l1 l2 : List Value) (hv : loadS h (some n) (ρ i) = some (.agg l1.toArray)) (hw : loadS h (some m) (ρ j) = some (.agg l2.toArray)) (hf1 : l1.all (flat 1) = true) (hf2 : l2.all (flat 1) = true)
  (hp : ∃ a, ρ i = .pointer a) (hq : ∃ a, ρ j = .pointer a) (ht : h.take base = h0) : callQ [.cell (some n) i, .cell (some m) j] base (.tuple #[.agg l1.toArray, .agg l2.toArray], h0, []) .ret ρ [] h [] := by
 obtain ⟨a, ha⟩ := hp
 obtain ⟨b, hb⟩ := hq
 refine ⟨rfl, ?_⟩
 show opn (ρ i) fun a => ∃ v, loadS h (some n) a = some v ∧ opn v fun v' => opn (ρ j) fun b => ∃ w, loadS h (some m) b = some w ∧ opn w fun w' => endW base h [] (.tuple #[.agg l1.toArray, .agg l2.toArray], h0, []) [v', w']
 rw [ha] at hv ⊢
 rw [hb] at hw ⊢
 refine ⟨_, hv, ?_⟩
 have g1 : flat 2 (.agg l1.toArray) = true := by simpa [flat] using hf1
 have g2 : flat 2 (.agg l2.toArray) = true := by simpa [flat] using hf2
 refine opn_of (n := 2) g1 ?_
 refine ⟨_, hw, ?_⟩
 exact opn_of (n := 2) g2 (end_flat (l := [.agg l1.toArray, .agg l2.toArray]) (by simpa [oneV, flat] using ⟨by simpa using hf1, by simpa using hf2⟩) ht)
theorem quo60 {x y : Int × Int} {X Y : Int} (hx : Bd X x) (hy : Bd Y y) (hXY : X * Y ≤ 1125899906842624) (hX : X ≤ 1125899906842624) (hY : Y * Y ≤ 1125899906842624) (h0 : y ≠ (0, 0)) (h : SHeap) :
  M.call 60 [.agg #[.int .i64 x.1, .int .i64 x.2], .agg #[.int .i64 y.1, .int .i64 y.2]] h = some (.tuple #[.agg #[.int .i64 (quoP x y).1, .int .i64 (quoP x y).2], .agg #[.int .i64 (restP x y).1, .int .i64 (restP x y).2]], h, []) := by
 have hn := nrm_pos h0
 have hY0 : 0 ≤ Y := by obtain ⟨a, b, _⟩ := hy; omega
 have hX0 : 0 ≤ X := by obtain ⟨a, b, _⟩ := hx; omega
 have hc : Bd Y (conjP y) := by unfold Bd conjP at *; dsimp only; omega
 have hYY : Y ≤ 1125899906842624 := by
  by_cases e : Y ≤ 1
  ·omega
  ·have := Int.mul_le_mul_of_nonneg_left (show (1 : Int) ≤ Y by omega) hY0
   omega
 have t78 := fun h => turned78 hy (by omega) h
 have t65 := fun h => times65 hx hc (by omega) h
 have tb := mulP_bd hx hc
 have t59 := fun h => norm59 hy (by omega) h
 have nb := nrm_le hy
 have hq := quo_bd hx hn
 obtain ⟨b1, b2, b3, b4⟩ := tb
 have w1 : IntKind.i64.wrap (2 * (mulP x (conjP y)).1) = 2 * (mulP x (conjP y)).1 := wrap64 (by omega) (by omega)
 have w2 : IntKind.i64.wrap (2 * (mulP x (conjP y)).2) = 2 * (mulP x (conjP y)).2 := wrap64 (by omega) (by omega)
 have w3 : IntKind.i64.wrap (2 * (mulP x (conjP y)).1 + nrm y) = 2 * (mulP x (conjP y)).1 + nrm y := wrap64 (by omega) (by omega)
 have w4 : IntKind.i64.wrap (2 * (mulP x (conjP y)).2 + nrm y) = 2 * (mulP x (conjP y)).2 + nrm y := wrap64 (by omega) (by omega)
 have w5 : IntKind.i64.wrap (2 * nrm y) = 2 * nrm y := wrap64 (by omega) (by omega)
 have f1 := fun h => floor80 (a := 2 * (mulP x (conjP y)).1 + nrm y) (b := 2 * nrm y) (A := 4611686018427387904) (by omega) (by omega) (by omega) (by omega) h
 have f2 := fun h => floor80 (a := 2 * (mulP x (conjP y)).2 + nrm y) (b := 2 * nrm y) (A := 4611686018427387904) (by omega) (by omega) (by omega) (by omega) h
 have e1 : (2 * (mulP x (conjP y)).1 + nrm y) / (2 * nrm y) = (quoP x y).1 := rfl
 have e2 : (2 * (mulP x (conjP y)).2 + nrm y) / (2 * nrm y) = (quoP x y).2 := rfl
 rw [e1] at f1
 rw [e2] at f2
 have t65' := fun h => times65 hq hy (by omega) h
 have t79 := fun h => minus79 hx (mulP_bd hq hy) (by omega) h
 have e3 : subP x (mulP (quoP x y) y) = restP x y := rfl
 rw [e3] at t79
 refine call_run sf60 rfl rfl rfl ?_
 unfold sf60
 repeat (first | apply Z1 | apply Z2 | apply Z3 | apply Z4 | apply Z5 rfl | apply Z6 | apply Z7 | apply Z8 | apply Z9 | apply ZA | apply ZB | apply ZC | ((first | apply ZD (by decide) | apply ZN (by decide)); (simp (maxSteps := 9999999) only [go_sem, argR, t78, t65, t59, w1, w2, w3, w4, w5, f1, f2, t65', t79]; rfl)) | (refine ZE ?_ ?_; · simp only [go_sem]) | (refine ZF ?_ ?_; · simp only [go_sem]))
 exact end_nil (q_cell2 [.int .i64 (quoP x y).1, .int .i64 (quoP x y).2] [.int .i64 (restP x y).1, .int .i64 (restP x y).2] (by simp only [go_sem]) (by simp only [go_sem]) rfl rfl ⟨_, by simp only [go_sem]; rfl⟩ ⟨_, by simp only [go_sem]; rfl⟩ (take_app _ _))
end
end Go.Proofs.YtdmfhdnpakgkpaaDoor.Sh
namespace Go.Proofs.YtdmfhdnpakgkpaaDoor.Sh
section
open Go
set_option maxRecDepth 100000
def primeN (n : Nat) : Bool := Nat.ble 2 n && (List.range n).all fun d => Nat.blt d 2 || Nat.blt n (d * d) || !(Nat.beq (n % d) 0)
theorem prime_iff {n : Nat} : primeN n = true ↔ 2 ≤ n ∧ ∀ d, 2 ≤ d → d * d ≤ n → ¬ n % d = 0 := by
 unfold primeN
 simp only [Bool.and_eq_true, List.all_eq_true, List.mem_range, Bool.or_eq_true, Bool.not_eq_true', Nat.ble_eq, blt_dec, decide_eq_true_eq, nbeq_dec, decide_eq_false_iff_not]
 constructor
 ·rintro ⟨h1, h2⟩
  refine ⟨h1, fun d hd hdd => ?_⟩
  have hlt : d < n := by
   have : d * 2 ≤ d * d := Nat.mul_le_mul_left d hd
   omega
  rcases h2 d hlt with (h | h) | h
  ·omega
  ·omega
  ·exact h
 ·rintro ⟨h1, h2⟩
  refine ⟨h1, fun d _ => ?_⟩
  by_cases e1 : d < 2
  ·exact .inl (.inl e1)
  ·by_cases e2 : n < d * d
   ·exact .inl (.inr e2)
   ·exact .inr (h2 d (by omega) (by omega))
theorem prime_yes {n d : Nat} (h2 : 2 ≤ n) (hn : n < d * d) (hd : ∀ e, 2 ≤ e → e < d → ¬ n % e = 0) : primeN n = true := by
 refine prime_iff.2 ⟨h2, fun e he hee => hd e he ?_⟩
 by_cases c : e < d
 ·exact c
 ·have := Nat.mul_le_mul (show d ≤ e by omega) (show d ≤ e by omega)
  omega
theorem prime_no {n d : Nat} (h2 : 2 ≤ d) (hd : d * d ≤ n) (h : n % d = 0) : primeN n = false := by
 cases e : primeN n with
 | false => rfl
 | true => exact ((prime_iff.1 e).2 d h2 hd h).elim
theorem tmod_nat (a b : Nat) : ((a : Int)).tmod (b : Int) = ((a % b : Nat) : Int) := by
 rw [Int.tmod_eq_emod_of_nonneg (by omega)]; rfl
theorem mul_wn {a b : Nat} (ha : a ≤ 2147483648) (hb : b ≤ 2147483648) : IntKind.i64.wrap ((a : Int) * b) = ((a * b : Nat) : Int) := by
 have h1 : a * b ≤ 2147483648 * 2147483648 := Nat.mul_le_mul ha hb
 rw [← Int.natCast_mul, wrap64 (by omega) (by omega)]
theorem primen_loop (cx : Cx) {n : Nat} (h2 : 2 ≤ n) (hn : n ≤ 2000000000) (H : SHeap) : ∀ k ρ ms h' d', (∃ d : Nat, d + k = n + 2 ∧ 2 ≤ d ∧ ρ 0 = .int .i64 n ∧ ρ 3 = .int .i64 d ∧ (∀ e, 2 ≤ e → e < d → ¬ n % e = 0) ∧ ms = [] ∧ h' = H ∧ d' = []) →
  LoopW M cx 5 sf89L0 ρ ms h' d' (fun ex ρ' ms' h' d' => ms' = [] ∧ h' = H ∧ d' = [] ∧ ((ex = .exit 0 ∧ primeN n = true) ∨ (ex = .ret ∧ ρ' 2 = .bool false ∧ primeN n = false))) := by
 refine loop_run _ ?_
 rintro k ρ ms h' d' ⟨d, hd, hd2, r0, r3, hno, rfl, rfl, rfl⟩
 unfold sf89L0
 have w1 := mul_wn (a := d) (b := d) (by omega) (by omega)
 by_cases hc : d * d ≤ n
 ·have e1 : ((d * d : Nat) : Int) ≤ n := by omega
  have hz : ¬ ((d : Int) = 0) := by omega
  have hdn : d ≤ n := by have := Nat.le_mul_self d; omega
  have ew : IntKind.i64.wrap ((d : Int) + 1) = ((d + 1 : Nat) : Int) := by rw [wrap64 (by omega) (by omega)]; rfl
  by_cases hm : n % d = 0
  ·have e2 : ((n % d : Nat) : Int) = 0 := by omega
   repeat (first | apply Z1 | apply Z2 | apply Z3 | apply Z4 | apply Z5 rfl | apply Z6 | apply Z7 | apply Z8 | apply Z9 | apply ZA | apply ZB | apply ZC | ((first | apply ZD (by decide) | apply ZN (by decide)); (simp (maxSteps := 9999999) only [go_sem, r0, r3, w1, e1, hz, tmod_nat, e2]; rfl)) | (refine ZE ?_ ?_; · simp only [go_sem]) | (refine ZF ?_ ?_; · simp only [go_sem]))
   exact end_nil ⟨rfl, rfl, rfl, .inr ⟨rfl, by simp only [go_sem], prime_no hd2 hc hm⟩⟩
  ·have e2 : ¬ ((n % d : Nat) : Int) = 0 := by omega
   repeat (first | apply Z1 | apply Z2 | apply Z3 | apply Z4 | apply Z5 rfl | apply Z6 | apply Z7 | apply Z8 | apply Z9 | apply ZA | apply ZB | apply ZC | ((first | apply ZD (by decide) | apply ZN (by decide)); (simp (maxSteps := 9999999) only [go_sem, r0, r3, w1, e1, hz, tmod_nat, e2, ew]; rfl)) | (refine ZE ?_ ?_; · simp only [go_sem]) | (refine ZF ?_ ?_; · simp only [go_sem]))
   refine end_nil ⟨k - 1, by omega, d + 1, by omega, by omega, ?_, ?_, fun e he1 he2 => ?_, rfl, rfl, rfl⟩
   ·simp only [go_sem, r0]
   ·simp only [go_sem, ew]
   ·by_cases c : e = d
    ·subst c; exact hm
    ·exact hno e he1 (by omega)
 ·have e1 : ¬ ((d * d : Nat) : Int) ≤ n := by omega
  repeat (first | apply Z1 | apply Z2 | apply Z3 | apply Z4 | apply Z5 rfl | apply Z6 | apply Z7 | apply Z8 | apply Z9 | apply ZA | apply ZB | apply ZC | ((first | apply ZD (by decide) | apply ZN (by decide)); (simp (maxSteps := 9999999) only [go_sem, r0, r3, w1, e1]; rfl)) | (refine ZE ?_ ?_; · simp only [go_sem]) | (refine ZF ?_ ?_; · simp only [go_sem]))
  exact end_nil ⟨rfl, rfl, rfl, .inl ⟨rfl, prime_yes h2 (by omega) hno⟩⟩
theorem prime89 {n : Nat} (hn : n ≤ 2000000000) (h : SHeap) : M.call 89 [.int .i64 n] h = some (.bool (primeN n), h, []) := by
 refine call_run sf89 rfl rfl rfl ?_
 unfold sf89
 by_cases c : n < 2
 ·have e1 : (n : Int) < 2 := by omega
  have e2 : primeN n = false := by
   cases e : primeN n with
   | false => rfl
   | true => have := (prime_iff.1 e).1; omega
  rw [e2]
  repeat (first | apply Z1 | apply Z2 | apply Z3 | apply Z4 | apply Z5 rfl | apply Z6 | apply Z7 | apply Z8 | apply Z9 | apply ZA | apply ZB | apply ZC | ((first | apply ZD (by decide) | apply ZN (by decide)); (simp (maxSteps := 9999999) only [go_sem, argR, e1]; rfl)) | (refine ZE ?_ ?_; · simp only [go_sem]) | (refine ZF ?_ ?_; · simp only [go_sem]))
  exact end_nil (q_ret1 _ (by simp only [go_sem]) rfl (take_self _))
 ·have e1 : ¬ (n : Int) < 2 := by omega
  repeat (first | apply Z1 | apply Z2 | apply Z3 | apply Z4 | apply Z5 rfl | apply Z6 | apply Z7 | apply Z8 | apply Z9 | apply ZA | apply ZB | apply ZC | ((first | apply ZD (by decide) | apply ZN (by decide)); (simp (maxSteps := 9999999) only [go_sem, argR, e1]; rfl)) | (refine ZE ?_ ?_; · simp only [go_sem]) | (refine ZF ?_ ?_; · simp only [go_sem]))
  refine run_loop (primen_loop _ (by omega) hn h n _ _ _ _ ⟨2, by omega, by omega, by simp only [go_sem, argR], by (simp only [go_sem]) <;> rfl, fun e h1 h2 => by omega, rfl, rfl, rfl⟩) ?_
  rintro ex ρ' ms' h1 d1 ⟨rfl, rfl, rfl, ⟨rfl, he⟩ | ⟨rfl, k2, he⟩⟩
  ·rw [he]
   repeat (first | apply Z1 | apply Z2 | apply Z3 | apply Z4 | apply Z5 rfl | apply Z6 | apply Z7 | apply Z8 | apply Z9 | apply ZA | apply ZB | apply ZC | ((first | apply ZD (by decide) | apply ZN (by decide)); (simp (maxSteps := 9999999) only [go_sem]; rfl)) | (refine ZE ?_ ?_; · simp only [go_sem]) | (refine ZF ?_ ?_; · simp only [go_sem]))
   exact end_nil (q_ret1 _ (by simp only [go_sem]) rfl (take_self _))
  ·rw [he]
   repeat (first | apply Z1 | apply Z2 | apply Z3 | apply Z4 | apply Z5 rfl | apply Z6 | apply Z7 | apply Z8 | apply Z9 | apply ZA | apply ZB | apply ZC | ((first | apply ZD (by decide) | apply ZN (by decide)); (simp (maxSteps := 9999999) only [go_sem]; rfl)) | (refine ZE ?_ ?_; · simp only [go_sem]) | (refine ZF ?_ ?_; · simp only [go_sem]))
   exact end_nil (q_ret1 _ (by simp only [go_sem, k2]) rfl (take_self _))
def mxP (p : Int × Int) : Nat := max p.1.natAbs p.2.natAbs
theorem max_abs (p : Int × Int) : foldS max2S [.int .i64 p.1, .int .i64 (-p.1), .int .i64 p.2, .int .i64 (-p.2)] = some (.int .i64 (mxP p)) := by
 have : foldS max2S [.int .i64 p.1, .int .i64 (-p.1), .int .i64 p.2, .int .i64 (-p.2)] = some (.int .i64 (if -p.2 > (if p.2 > (if -p.1 > p.1 then -p.1 else p.1) then p.2 else (if -p.1 > p.1 then -p.1 else p.1)) then -p.2 else (if p.2 > (if -p.1 > p.1 then -p.1 else p.1) then p.2 else (if -p.1 > p.1 then -p.1 else p.1)))) := rfl
 rw [this]
 congr 2
 unfold mxP
 split <;> split <;> split <;> omega
def primeP (p : Int × Int) : Bool := if p.1 = 0 ∨ p.2 = 0 then decide (mxP p % 4 = 3) && primeN (mxP p) else primeN (nrm p).toNat
theorem prime75 {p : Int × Int} (hp : Bd 30000 p) (h : SHeap) : M.call 75 [.agg #[.int .i64 p.1, .int .i64 p.2]] h = some (.bool (primeP p), h, []) := by
 have c59 := fun h => norm59 hp (by decide) h
 obtain ⟨_, _, _, n1, n2⟩ := nrm_w hp (by decide)
 have hm : mxP p ≤ 30000 := by
  obtain ⟨a, b, c, d⟩ := hp
  unfold mxP; omega
 have c89 := fun h => prime89 (n := mxP p) (by omega) h
 have c89' := fun h => prime89 (n := (nrm p).toNat) (by omega) h
 rw [Int.toNat_of_nonneg n1] at c89'
 have wn1 : IntKind.i64.wrap (-p.1) = -p.1 := by obtain ⟨a, b, c, d⟩ := hp; exact wrap64 (by omega) (by omega)
 have wn2 : IntKind.i64.wrap (-p.2) = -p.2 := by obtain ⟨a, b, c, d⟩ := hp; exact wrap64 (by omega) (by omega)
 have m4 : ((mxP p : Nat) : Int).tmod 4 = ((mxP p % 4 : Nat) : Int) := tmod_nat _ 4
 refine call_run sf75 rfl rfl rfl ?_
 unfold sf75
 have key : ∀ c : p.1 = 0 ∨ p.2 = 0, Run M ⟨h.length, none, 75⟩ sf75.dep sf75.body [] (argR [.agg #[.int .i64 p.1, .int .i64 p.2]]) [] h [] (callQ sf75.res h.length (.bool (primeP p), h, [])) := by
  intro c
  have hpp : primeP p = (decide (mxP p % 4 = 3) && primeN (mxP p)) := by unfold primeP; rw [if_pos c]
  rw [hpp]
  unfold sf75
  by_cases d : mxP p % 4 = 3
  ·have d1 : (((mxP p % 4 : Nat) : Int) = 3) = True := eq_true (by omega)
   rw [decide_eq_true d, Bool.true_and]
   by_cases c1 : p.1 = 0
   ·have c1' : (p.1 = 0) = True := eq_true c1
    repeat (first | apply Z1 | apply Z2 | apply Z3 | apply Z4 | apply Z5 rfl | apply Z6 | apply Z7 | apply Z8 | apply Z9 | apply ZA | apply ZB | apply ZC | ((first | apply ZD (by decide) | apply ZN (by decide)); (simp (maxSteps := 9999999) only [go_sem, argR, c1', wn1, wn2, max_abs, m4, d1, c89]; rfl)) | (refine ZE ?_ ?_; · simp only [go_sem]) | (refine ZF ?_ ?_; · simp only [go_sem]))
    exact end_nil (q_ret1 _ (by simp only [go_sem]) rfl (take_app _ _))
   ·have c1' : (p.1 = 0) = False := eq_false c1
    have c2' : (p.2 = 0) = True := eq_true (by omega)
    repeat (first | apply Z1 | apply Z2 | apply Z3 | apply Z4 | apply Z5 rfl | apply Z6 | apply Z7 | apply Z8 | apply Z9 | apply ZA | apply ZB | apply ZC | ((first | apply ZD (by decide) | apply ZN (by decide)); (simp (maxSteps := 9999999) only [go_sem, argR, c1', c2', wn1, wn2, max_abs, m4, d1, c89]; rfl)) | (refine ZE ?_ ?_; · simp only [go_sem]) | (refine ZF ?_ ?_; · simp only [go_sem]))
    exact end_nil (q_ret1 _ (by simp only [go_sem]) rfl (take_app _ _))
  ·have d1 : (((mxP p % 4 : Nat) : Int) = 3) = False := eq_false (by omega)
   rw [decide_eq_false d, Bool.false_and]
   by_cases c1 : p.1 = 0
   ·have c1' : (p.1 = 0) = True := eq_true c1
    repeat (first | apply Z1 | apply Z2 | apply Z3 | apply Z4 | apply Z5 rfl | apply Z6 | apply Z7 | apply Z8 | apply Z9 | apply ZA | apply ZB | apply ZC | ((first | apply ZD (by decide) | apply ZN (by decide)); (simp (maxSteps := 9999999) only [go_sem, argR, c1', wn1, wn2, max_abs, m4, d1]; rfl)) | (refine ZE ?_ ?_; · simp only [go_sem]) | (refine ZF ?_ ?_; · simp only [go_sem]))
    exact end_nil (q_ret1 _ (by simp only [go_sem]) rfl (take_app _ _))
   ·have c1' : (p.1 = 0) = False := eq_false c1
    have c2' : (p.2 = 0) = True := eq_true (by omega)
    repeat (first | apply Z1 | apply Z2 | apply Z3 | apply Z4 | apply Z5 rfl | apply Z6 | apply Z7 | apply Z8 | apply Z9 | apply ZA | apply ZB | apply ZC | ((first | apply ZD (by decide) | apply ZN (by decide)); (simp (maxSteps := 9999999) only [go_sem, argR, c1', c2', wn1, wn2, max_abs, m4, d1]; rfl)) | (refine ZE ?_ ?_; · simp only [go_sem]) | (refine ZF ?_ ?_; · simp only [go_sem]))
    exact end_nil (q_ret1 _ (by simp only [go_sem]) rfl (take_app _ _))
 by_cases c : p.1 = 0 ∨ p.2 = 0
 ·exact key c
 ·have hpp : primeP p = primeN (nrm p).toNat := by unfold primeP; rw [if_neg c]
  rw [hpp]
  have c1' : (p.1 = 0) = False := eq_false (by omega)
  have c2' : (p.2 = 0) = False := eq_false (by omega)
  repeat (first | apply Z1 | apply Z2 | apply Z3 | apply Z4 | apply Z5 rfl | apply Z6 | apply Z7 | apply Z8 | apply Z9 | apply ZA | apply ZB | apply ZC | ((first | apply ZD (by decide) | apply ZN (by decide)); (simp (maxSteps := 9999999) only [go_sem, argR, c1', c2', c59, c89']; rfl)) | (refine ZE ?_ ?_; · simp only [go_sem]) | (refine ZF ?_ ?_; · simp only [go_sem]))
  exact end_nil (q_ret1 _ (by simp only [go_sem]) rfl (take_app _ _))
end
end Go.Proofs.YtdmfhdnpakgkpaaDoor.Sh
namespace Go.Proofs.YtdmfhdnpakgkpaaDoor.Sh
section
open Go
set_option maxRecDepth 100000
theorem normR27 {p : Int × Int} {A : Int} (hp : Bd A p) (hA : A * A ≤ 2305843009213693952) (h : SHeap) :
  M.call 27 [.agg #[.int .i64 p.1, .int .i64 p.2]] h = some (.int .i64 (nrm p), h, []) := by
 obtain ⟨w1, w2, w3, _, _⟩ := nrm_w hp hA
 refine call_run sf27 rfl rfl rfl ?_
 unfold sf27
 repeat (first | apply Z1 | apply Z2 | apply Z3 | apply Z4 | apply Z5 rfl | apply Z6 | apply Z7 | apply Z8 | apply Z9 | apply ZA | apply ZB | apply ZC | ((first | apply ZD (by decide) | apply ZN (by decide)); (simp (maxSteps := 9999999) only [go_sem, argR, w1, w2, w3]; rfl)) | (refine ZE ?_ ?_; · simp only [go_sem]) | (refine ZF ?_ ?_; · simp only [go_sem]))
 exact end_nil (q_ret1 _ (by simp only [go_sem]) rfl (take_app _ _))
theorem validR26 (p : Int × Int) (h : SHeap) : M.call 26 [.agg #[.int .i64 p.1, .int .i64 p.2]] h = some (.bool (decide (Bd 30000 p)), h, []) := by
 refine call_run sf26 rfl rfl rfl ?_
 unfold sf26
 by_cases c1 : -30000 ≤ p.1
 ·by_cases c2 : p.1 ≤ 30000
  ·by_cases c3 : -30000 ≤ p.2
   ·by_cases c4 : p.2 ≤ 30000
    ·rw [decide_eq_true (show Bd 30000 p from ⟨c1, c2, c3, c4⟩)]
     repeat (first | apply Z1 | apply Z2 | apply Z3 | apply Z4 | apply Z5 rfl | apply Z6 | apply Z7 | apply Z8 | apply Z9 | apply ZA | apply ZB | apply ZC | ((first | apply ZD (by decide) | apply ZN (by decide)); (simp (maxSteps := 9999999) only [go_sem, argR, c1, c2, c3, c4]; rfl)) | (refine ZE ?_ ?_; · simp only [go_sem]) | (refine ZF ?_ ?_; · simp only [go_sem]))
     exact end_nil (q_ret1 _ (by simp only [go_sem]) rfl (take_app _ _))
    ·rw [decide_eq_false (show ¬ Bd 30000 p from fun e => c4 e.2.2.2)]
     repeat (first | apply Z1 | apply Z2 | apply Z3 | apply Z4 | apply Z5 rfl | apply Z6 | apply Z7 | apply Z8 | apply Z9 | apply ZA | apply ZB | apply ZC | ((first | apply ZD (by decide) | apply ZN (by decide)); (simp (maxSteps := 9999999) only [go_sem, argR, c1, c2, c3, c4]; rfl)) | (refine ZE ?_ ?_; · simp only [go_sem]) | (refine ZF ?_ ?_; · simp only [go_sem]))
     exact end_nil (q_ret1 _ (by simp only [go_sem]) rfl (take_app _ _))
   ·rw [decide_eq_false (show ¬ Bd 30000 p from fun e => c3 e.2.2.1)]
    repeat (first | apply Z1 | apply Z2 | apply Z3 | apply Z4 | apply Z5 rfl | apply Z6 | apply Z7 | apply Z8 | apply Z9 | apply ZA | apply ZB | apply ZC | ((first | apply ZD (by decide) | apply ZN (by decide)); (simp (maxSteps := 9999999) only [go_sem, argR, c1, c2, c3]; rfl)) | (refine ZE ?_ ?_; · simp only [go_sem]) | (refine ZF ?_ ?_; · simp only [go_sem]))
    exact end_nil (q_ret1 _ (by simp only [go_sem]) rfl (take_app _ _))
  ·rw [decide_eq_false (show ¬ Bd 30000 p from fun e => c2 e.2.1)]
   repeat (first | apply Z1 | apply Z2 | apply Z3 | apply Z4 | apply Z5 rfl | apply Z6 | apply Z7 | apply Z8 | apply Z9 | apply ZA | apply ZB | apply ZC | ((first | apply ZD (by decide) | apply ZN (by decide)); (simp (maxSteps := 9999999) only [go_sem, argR, c1, c2]; rfl)) | (refine ZE ?_ ?_; · simp only [go_sem]) | (refine ZF ?_ ?_; · simp only [go_sem]))
   exact end_nil (q_ret1 _ (by simp only [go_sem]) rfl (take_app _ _))
 ·rw [decide_eq_false (show ¬ Bd 30000 p from fun e => c1 e.1)]
  repeat (first | apply Z1 | apply Z2 | apply Z3 | apply Z4 | apply Z5 rfl | apply Z6 | apply Z7 | apply Z8 | apply Z9 | apply ZA | apply ZB | apply ZC | ((first | apply ZD (by decide) | apply ZN (by decide)); (simp (maxSteps := 9999999) only [go_sem, argR, c1]; rfl)) | (refine ZE ?_ ?_; · simp only [go_sem]) | (refine ZF ?_ ?_; · simp only [go_sem]))
  exact end_nil (q_ret1 _ (by simp only [go_sem]) rfl (take_app _ _))
theorem mulR35 {p q : Int × Int} {A C : Int} (hp : Bd A p) (hq : Bd C q) (hAC : A * C ≤ 2305843009213693952) (h : SHeap) :
  M.call 35 [.agg #[.int .i64 p.1, .int .i64 p.2], .agg #[.int .i64 q.1, .int .i64 q.2]] h = some (.agg #[.int .i64 (mulP p q).1, .int .i64 (mulP p q).2], h, []) := by
 obtain ⟨w1, w2, w3, w4, w5, w6⟩ := (mw_of hp hq hAC).1
 refine call_run sf35 rfl rfl rfl ?_
 unfold sf35
 repeat (first | apply Z1 | apply Z2 | apply Z3 | apply Z4 | apply Z5 rfl | apply Z6 | apply Z7 | apply Z8 | apply Z9 | apply ZA | apply ZB | apply ZC | ((first | apply ZD (by decide) | apply ZN (by decide)); (simp (maxSteps := 9999999) only [go_sem, argR, w1, w2, w3, w4, w5, w6]; rfl)) | (refine ZE ?_ ?_; · simp only [go_sem]) | (refine ZF ?_ ?_; · simp only [go_sem]))
 exact end_nil (q_cell [.int .i64 (mulP p q).1, .int .i64 (mulP p q).2] (by simp only [go_sem]) rfl ⟨_, by simp only [go_sem]; rfl⟩ (take_app _ _))
theorem subR55 {p q : Int × Int} {A C : Int} (hp : Bd A p) (hq : Bd C q) (hAC : A + C ≤ 4611686018427387904) (h : SHeap) :
  M.call 55 [.agg #[.int .i64 p.1, .int .i64 p.2], .agg #[.int .i64 q.1, .int .i64 q.2]] h = some (.agg #[.int .i64 (subP p q).1, .int .i64 (subP p q).2], h, []) := by
 obtain ⟨p1, p2, p3, p4⟩ := hp
 obtain ⟨q1, q2, q3, q4⟩ := hq
 have w1 : IntKind.i64.wrap (p.1 - q.1) = (subP p q).1 := wrap64 (by omega) (by omega)
 have w2 : IntKind.i64.wrap (p.2 - q.2) = (subP p q).2 := wrap64 (by omega) (by omega)
 refine call_run sf55 rfl rfl rfl ?_
 unfold sf55
 repeat (first | apply Z1 | apply Z2 | apply Z3 | apply Z4 | apply Z5 rfl | apply Z6 | apply Z7 | apply Z8 | apply Z9 | apply ZA | apply ZB | apply ZC | ((first | apply ZD (by decide) | apply ZN (by decide)); (simp (maxSteps := 9999999) only [go_sem, argR, w1, w2]; rfl)) | (refine ZE ?_ ?_; · simp only [go_sem]) | (refine ZF ?_ ?_; · simp only [go_sem]))
 exact end_nil (q_cell [.int .i64 (subP p q).1, .int .i64 (subP p q).2] (by simp only [go_sem]) rfl ⟨_, by simp only [go_sem]; rfl⟩ (take_app _ _))
theorem floorR_eq {a b : Int} (hb : 0 < b) : (a < a.tdiv b * b → a.tdiv b - 1 = a / b) ∧ (¬ a < a.tdiv b * b → a.tdiv b = a / b) := by
 have h1 := Int.mul_tdiv_add_tmod a b
 have e0 : a.tdiv b * b = b * a.tdiv b := Int.mul_comm _ _
 obtain ⟨f1, f2⟩ := floor_eq (a := a) hb
 exact ⟨fun h => f1 (by omega), fun h => f2 (by omega)⟩
theorem floorR74 {a b A : Int} (hb : 0 < b) (hb2 : b ≤ A) (h1 : -A ≤ a) (h2 : a ≤ A) (hA : A ≤ 2305843009213693952) (h : SHeap) :
  M.call 74 [.int .i64 a, .int .i64 b] h = some (.int .i64 (a / b), h, []) := by
 obtain ⟨f1, f2⟩ := floorR_eq (a := a) hb
 obtain ⟨b1, b2⟩ := ediv_bd hb h1 h2
 have hb0 : ¬ b = 0 := by omega
 have k1 := Int.mul_tdiv_add_tmod a b
 have k2 := Int.tmod_lt_of_pos a hb
 have k3 := Int.lt_tmod_of_pos a hb
 have e0 : a.tdiv b * b = b * a.tdiv b := Int.mul_comm _ _
 have w0 : IntKind.i64.wrap (a.tdiv b * b) = a.tdiv b * b := wrap64 (by omega) (by omega)
 refine call_run sf74 rfl rfl rfl ?_
 unfold sf74
 by_cases c : a < a.tdiv b * b
 ·have e := f1 c
  have w1 : IntKind.i64.wrap (a.tdiv b) = a.tdiv b := wrap64 (by omega) (by omega)
  have w2 : IntKind.i64.wrap (a.tdiv b - 1) = a / b := by rw [wrap64 (by omega) (by omega), e]
  repeat (first | apply Z1 | apply Z2 | apply Z3 | apply Z4 | apply Z5 rfl | apply Z6 | apply Z7 | apply Z8 | apply Z9 | apply ZA | apply ZB | apply ZC | ((first | apply ZD (by decide) | apply ZN (by decide)); (simp (maxSteps := 9999999) only [go_sem, argR, hb0, w0, c, w1, w2]; rfl)) | (refine ZE ?_ ?_; · simp only [go_sem]) | (refine ZF ?_ ?_; · simp only [go_sem]))
  exact end_nil (q_ret1 _ (by simp only [go_sem]) rfl (take_self _))
 ·have e := f2 c
  have w1 : IntKind.i64.wrap (a.tdiv b) = a.tdiv b := wrap64 (by omega) (by omega)
  repeat (first | apply Z1 | apply Z2 | apply Z3 | apply Z4 | apply Z5 rfl | apply Z6 | apply Z7 | apply Z8 | apply Z9 | apply ZA | apply ZB | apply ZC | ((first | apply ZD (by decide) | apply ZN (by decide)); (simp (maxSteps := 9999999) only [go_sem, argR, hb0, w0, c, w1]; rfl)) | (refine ZE ?_ ?_; · simp only [go_sem]) | (refine ZF ?_ ?_; · simp only [go_sem]))
  exact end_nil (q_ret1 _ (by simp only [go_sem, e]) rfl (take_self _))
theorem quoR44 {x y : Int × Int} {X Y : Int} (hx : Bd X x) (hy : Bd Y y) (hXY : X * Y ≤ 1125899906842624) (hX : X ≤ 1125899906842624) (hY : Y * Y ≤ 1125899906842624) (h0 : y ≠ (0, 0)) (h : SHeap) :
  M.call 44 [.agg #[.int .i64 x.1, .int .i64 x.2], .agg #[.int .i64 y.1, .int .i64 y.2]] h = some (.tuple #[.agg #[.int .i64 (quoP x y).1, .int .i64 (quoP x y).2], .agg #[.int .i64 (restP x y).1, .int .i64 (restP x y).2]], h, []) := by
 have hn := nrm_pos h0
 have hY0 : 0 ≤ Y := by obtain ⟨a, b, _⟩ := hy; omega
 have hX0 : 0 ≤ X := by obtain ⟨a, b, _⟩ := hx; omega
 have hc : Bd Y (conjP y) := by unfold Bd conjP at *; dsimp only; omega
 have hYY : Y ≤ 1125899906842624 := by
  by_cases e : Y ≤ 1
  ·omega
  ·have := Int.mul_le_mul_of_nonneg_left (show (1 : Int) ≤ Y by omega) hY0
   omega
 have w0 : IntKind.i64.wrap (-y.2) = -y.2 := by obtain ⟨a, b, c, d⟩ := hy; exact wrap64 (by omega) (by omega)
 have t65 := fun h => mulR35 hx hc (by omega) h
 have tb := mulP_bd hx hc
 have t59 := fun h => normR27 hy (by omega) h
 have nb := nrm_le hy
 have hq := quo_bd hx hn
 obtain ⟨b1, b2, b3, b4⟩ := tb
 have ec : conjP y = (y.1, -y.2) := rfl
 have w1 : IntKind.i64.wrap (2 * (mulP x (conjP y)).1) = 2 * (mulP x (conjP y)).1 := wrap64 (by omega) (by omega)
 have w2 : IntKind.i64.wrap (2 * (mulP x (conjP y)).2) = 2 * (mulP x (conjP y)).2 := wrap64 (by omega) (by omega)
 have w3 : IntKind.i64.wrap (2 * (mulP x (conjP y)).1 + nrm y) = 2 * (mulP x (conjP y)).1 + nrm y := wrap64 (by omega) (by omega)
 have w4 : IntKind.i64.wrap (2 * (mulP x (conjP y)).2 + nrm y) = 2 * (mulP x (conjP y)).2 + nrm y := wrap64 (by omega) (by omega)
 have w5 : IntKind.i64.wrap (2 * nrm y) = 2 * nrm y := wrap64 (by omega) (by omega)
 have f1 := fun h => floorR74 (a := 2 * (mulP x (conjP y)).1 + nrm y) (b := 2 * nrm y) (A := 2305843009213693952) (by omega) (by omega) (by omega) (by omega) (by omega) h
 have f2 := fun h => floorR74 (a := 2 * (mulP x (conjP y)).2 + nrm y) (b := 2 * nrm y) (A := 2305843009213693952) (by omega) (by omega) (by omega) (by omega) (by omega) h
 have e1 : (2 * (mulP x (conjP y)).1 + nrm y) / (2 * nrm y) = (quoP x y).1 := rfl
 have e2 : (2 * (mulP x (conjP y)).2 + nrm y) / (2 * nrm y) = (quoP x y).2 := rfl
 rw [e1] at f1
 rw [e2] at f2
 have t65' := fun h => mulR35 hq hy (by omega) h
 have t79 := fun h => subR55 hx (mulP_bd hq hy) (by omega) h
 have e3 : subP x (mulP (quoP x y) y) = restP x y := rfl
 rw [e3] at t79
 have t65c : ∀ h, M.call 35 [.agg #[.int .i64 x.1, .int .i64 x.2], .agg #[.int .i64 y.1, .int .i64 (-y.2)]] h = some (.agg #[.int .i64 (mulP x (conjP y)).1, .int .i64 (mulP x (conjP y)).2], h, []) := t65
 refine call_run sf44 rfl rfl rfl ?_
 unfold sf44
 repeat (first | apply Z1 | apply Z2 | apply Z3 | apply Z4 | apply Z5 rfl | apply Z6 | apply Z7 | apply Z8 | apply Z9 | apply ZA | apply ZB | apply ZC | ((first | apply ZD (by decide) | apply ZN (by decide)); (simp (maxSteps := 9999999) only [go_sem, argR, w0, t65c, t59, w1, w2, w3, w4, w5, f1, f2, t65', t79]; rfl)) | (refine ZE ?_ ?_; · simp only [go_sem]) | (refine ZF ?_ ?_; · simp only [go_sem]))
 exact end_nil (q_cell2 [.int .i64 (quoP x y).1, .int .i64 (quoP x y).2] [.int .i64 (restP x y).1, .int .i64 (restP x y).2] (by simp only [go_sem]) (by simp only [go_sem]) rfl rfl ⟨_, by simp only [go_sem]; rfl⟩ ⟨_, by simp only [go_sem]; rfl⟩ (take_app _ _))
end
end Go.Proofs.YtdmfhdnpakgkpaaDoor.Sh
namespace Go.Proofs.YtdmfhdnpakgkpaaDoor.Sh
section
open Go
set_option maxRecDepth 100000
abbrev agV (p : Int × Int) : Value := .agg #[.int .i64 p.1, .int .i64 p.2]
abbrev bx (p : Int × Int) : SO := .cells [.int .i64 p.1, .int .i64 p.2] 34 true 0 []
abbrev bz : SO := .cells [.int .i64 0, .int .i64 0] 34 true 0 []
abbrev bs (x y : Int × Int) : SO := .cells [.int .i64 x.1, .int .i64 x.2, .int .i64 y.1, .int .i64 y.2] 68 true 0 []
theorem open2 (x y : Int × Int) (h : SHeap) (l : List SO) (k : Nat) (hk : l[k]? = some (bs x y)) : M.call 64 [.slice (some ⟨h.length + k, 0, none⟩) 2 2] (h ++ l) = some (.int .i64 (if Bd 30000 x ∧ Bd 30000 y then 0 else 70), h ++ l, []) := by
 have := open64 (h := h ++ l) (v := .slice (some ⟨h.length + k, 0, none⟩) 2 2) (a := [x, y]) (PS.mk0 (el := 68) (by rw [app_get, hk]; rfl) rfl) (by simp)
 rw [this]
 simp [openE]
end
end Go.Proofs.YtdmfhdnpakgkpaaDoor.Sh
namespace Go.Proofs.YtdmfhdnpakgkpaaDoor.Sh
section
open Go
set_option maxRecDepth 100000
def isF (p : Int × Int) : Prop := 0 < p.1 ∧ 0 ≤ p.2
instance (p : Int × Int) : Decidable (isF p) := by unfold isF; exact inferInstance
def unitK : Nat → Int × Int
 | 0 => (1, 0)
 | 1 => (0, 1)
 | 2 => (-1, 0)
 | _ => (0, -1)
def firstU (p : Int × Int) : Int × Int := if isF p then (1, 0) else if isF (mulP p (0, 1)) then (0, 1) else if isF (mulP p (-1, 0)) then (-1, 0) else if isF (mulP p (0, -1)) then (0, -1) else (1, 0)
def firP (p : Int × Int) : (Int × Int) × (Int × Int) := (mulP p (firstU p), conjP (firstU p))
theorem mul_one (p : Int × Int) : mulP p (1, 0) = p := by unfold mulP; refine Prod.ext ?_ ?_ <;> dsimp only <;> omega
theorem mul_i (p : Int × Int) : mulP p (0, 1) = (-p.2, p.1) := by unfold mulP; refine Prod.ext ?_ ?_ <;> dsimp only <;> omega
theorem mul_m (p : Int × Int) : mulP p (-1, 0) = (-p.1, -p.2) := by unfold mulP; refine Prod.ext ?_ ?_ <;> dsimp only <;> omega
theorem mul_mi (p : Int × Int) : mulP p (0, -1) = (p.2, -p.1) := by unfold mulP; refine Prod.ext ?_ ?_ <;> dsimp only <;> omega
theorem first_ex {p : Int × Int} (h : p ≠ (0, 0)) : isF p ∨ isF (mulP p (0, 1)) ∨ isF (mulP p (-1, 0)) ∨ isF (mulP p (0, -1)) := by
 have : ¬ (p.1 = 0 ∧ p.2 = 0) := fun e => h (Prod.ext e.1 e.2)
 rw [mul_i, mul_m, mul_mi]
 unfold isF
 dsimp only
 omega
def rfA73_0 : SCode := (.region 0 [ ⟨(some 4), none, .alloc 68 true [(.int .i64 0), (.int .i64 0)], none, 0, false, []⟩, ⟨none, none, .store 2 (.tmp 4) (.tmp 7), none, 1, false, []⟩])
def rfB73_0 : SCode := (.block 1 (.seq (.region 0 [ ⟨(some 8), none, .load (some 2) (.tmp 1), none, 0, false, []⟩, ⟨(some 9), none, .load (some 2) (.tmp 4), none, 1, false, []⟩, ⟨(some 10), none, .call (.func 65) [(.tmp 8), (.tmp 9)], none, 2, false, []⟩, ⟨(some 5), none, .alloc 68 true [(.int .i64 0), (.int .i64 0)], none, 3, false, []⟩, ⟨none, none, .store 2 (.tmp 5) (.tmp 10), none, 4, false, []⟩]) (.seq (.region 0 [ ⟨(some 11), none, .idxArr 2 1 (.tmp 5) (.const (.int .i64 0)), none, 0, false, []⟩, ⟨(some 12), none, .load none (.tmp 11), none, 1, false, []⟩, ⟨(some 13), none, .bin .gtr (.tmp 12) (.const (.int .i64 0)), none, 2, false, []⟩, ⟨(some 14), none, .mov (.tmp 13), none, 3, false, []⟩, ⟨(some 15), none, .idxArr 2 1 (.tmp 5) (.const (.int .i64 1)), some (14, true), 4, false, []⟩, ⟨(some 16), none, .load none (.tmp 15), some (14, true), 5, false, []⟩, ⟨(some 17), none, .bin .geq (.tmp 16) (.const (.int .i64 0)), some (14, true), 6, false, []⟩, ⟨(some 18), none, .pick (.tmp 14) (.tmp 17) (.const (.bool false)), none, 7, false, []⟩]) (.cond (.tmp 18) (.seq (.region 0 [ ⟨(some 19), none, .load (some 2) (.tmp 5), none, 0, true, []⟩, ⟨(some 20), none, .load (some 2) (.tmp 4), none, 1, true, []⟩, ⟨(some 21), none, .call (.func 78) [(.tmp 20)], none, 2, false, [0]⟩, ⟨none, none, .store 2 (.tmp 2) (.tmp 19), none, 3, false, []⟩, ⟨none, none, .store 2 (.tmp 3) (.tmp 21), none, 4, false, []⟩]) (.ret)) (.skip)))))
structure JF (n : Nat) (x : Int × Int) (t : T) (H hh : SHeap) : Prop where
 len : n + 5 ≤ hh.length
 low : ∀ j, j < n → hh[j]? = H[j]?
 c0 : hh[n]? = some (.cells [.int .i64 x.1, .int .i64 x.2] 68 true 0 [])
 c1 : hh[n + 1]? = some (.cells [.int .i64 0, .int .i64 0] 68 true 0 [])
 c2 : hh[n + 2]? = some (.cells [.int .i64 0, .int .i64 0] 68 true 0 [])
 df : hh[n + 3]? = some .deferred
 lp : hh[n + 4]? = some (.loop 0 73 t [7] rfA73_0 rfB73_0 none (n + 3))
structure JG (n : Nat) (x u : Int × Int) (t : T) (H hh : SHeap) : Prop where
 len : n + 5 ≤ hh.length
 low : ∀ j, j < n → hh[j]? = H[j]?
 c1 : hh[n + 1]? = some (.cells [.int .i64 (mulP x u).1, .int .i64 (mulP x u).2] 68 true 0 [])
 c2 : hh[n + 2]? = some (.cells [.int .i64 (conjP u).1, .int .i64 (conjP u).2] 68 true 0 [])
 df : hh[n + 3]? = some .deferred
 lp : hh[n + 4]? = some (.loop 2 73 t [7] rfA73_0 rfB73_0 (some .ret) (n + 3))
theorem first_round {n base : Nat} {x u : Int × Int} {t : T} {H hh : SHeap} (hx : Bd 1000000000 x) (hu : Bd 1 u) (hf : Full 5 t) (t1 : t.get 1 = .pointer (some ⟨n, 0, none⟩)) (t2 : t.get 2 = .pointer (some ⟨n + 1, 0, none⟩)) (t3 : t.get 3 = .pointer (some ⟨n + 2, 0, none⟩)) (J : JF n x t H hh) :
  ∃ hh', (isF (mulP x u) → M.round base (n + 4) [agV u] hh = some (.bool false, hh', []) ∧ JG n x u t H hh') ∧
   (¬ isF (mulP x u) → M.round base (n + 4) [agV u] hh = some (.bool true, hh', []) ∧ hh.length ≤ hh'.length ∧ ∀ j, j < hh.length → hh'[j]? = hh[j]?) := by
 have jl := J.len
 have c65 := fun h => times65 hx hu (by decide) h
 have c78 := fun h => turned78 hu (by decide) h
 have hset : (hh ++ [SO.cells [.int .i64 u.1, .int .i64 u.2] 68 true 0 []]).set (n + 4) (.loop 1 73 t [7] rfA73_0 rfB73_0 none (n + 3)) = hh.set (n + 4) (.loop 1 73 t [7] rfA73_0 rfB73_0 none (n + 3)) ++ [SO.cells [.int .i64 u.1, .int .i64 u.2] 68 true 0 []] := by
  rw [List.set_append_left _ _ (by omega)]
 have hl1 : (hh ++ [SO.cells [.int .i64 u.1, .int .i64 u.2] 68 true 0 []])[n + 4]? = some (.loop 0 73 t [7] rfA73_0 rfB73_0 none (n + 3)) := by rw [List.getElem?_append_left (by omega)]; exact J.lp
 have g0 : ∀ j, j ≠ n + 4 → (hh.set (n + 4) (.loop 1 73 t [7] rfA73_0 rfB73_0 none (n + 3)))[j]? = hh[j]? := fun j hj => by rw [List.getElem?_set_ne (by omega)]
 have g1 : (hh.set (n + 4) (.loop 1 73 t [7] rfA73_0 rfB73_0 none (n + 3)))[n + 4]? = some (.loop 1 73 t [7] rfA73_0 rfB73_0 none (n + 3)) := by rw [List.getElem?_set_self (by omega)]
 have g2 : (hh.set (n + 4) (.loop 1 73 t [7] rfA73_0 rfB73_0 none (n + 3))).length = hh.length := by simp
 have hbase : Run M ⟨base, some (n + 4), 73⟩ 5 rfA73_0 [] (zipR t.get [7] [agV u]) [] hh [] (fun ex ρ1 ms1 h1 d1 => ex = .normal ∧ ms1 = [] ∧ d1 = [] ∧ h1 = hh ++ [SO.cells [.int .i64 u.1, .int .i64 u.2] 68 true 0 []] ∧ ρ1 1 = .pointer (some ⟨n, 0, none⟩) ∧ ρ1 2 = .pointer (some ⟨n + 1, 0, none⟩) ∧ ρ1 3 = .pointer (some ⟨n + 2, 0, none⟩) ∧ ρ1 4 = .pointer (some ⟨hh.length, 0, none⟩)) := by
  unfold rfA73_0
  repeat (first | apply Z1 | apply Z2 | apply Z3 | apply Z4 | apply Z5 rfl | apply Z6 | apply Z7 | apply Z8 | apply Z9 | apply ZA | apply ZB | apply ZC | ((first | apply ZD (by decide) | apply ZN (by decide)); (simp (maxSteps := 9999999) only [go_sem]; rfl)) | (refine ZE ?_ ?_; · simp only [go_sem]) | (refine ZF ?_ ?_; · simp only [go_sem]))
  refine end_nil ⟨rfl, rfl, rfl, rfl, ?_, ?_, ?_, ?_⟩
  ·simp only [go_sem, t1]
  ·simp only [go_sem, t2]
  ·simp only [go_sem, t3]
  ·simp only [go_sem]
 by_cases c : isF (mulP x u)
 ·obtain ⟨r, ⟨hh', rfl, hP⟩, e⟩ := round_rule (FT := FT0) (C := flatK CA) (base := base) (args := [agV u]) (fun r => ∃ hh', r = (.bool false, hh', []) ∧ JG n x u t H hh') J.lp hf rfl (by decide) rfl (by
   refine run_imp hbase ?_
   rintro ex ρ1 ms1 h1 d1 ⟨rfl, rfl, rfl, rfl, k1, k2, k3, k4⟩
   refine ⟨rfl, ⟨73, t, [7], _, _, n + 3, hl1⟩, ?_⟩
   rw [setLoop_eq hl1, hset]
   rw [← g2] at k4
   have gl := g2
   generalize hh.set (n + 4) (.loop 1 73 t [7] rfA73_0 rfB73_0 none (n + 3)) = G at *
   have b1 : ∀ l, loadS (G ++ l) (some 2) (.pointer (some ⟨n, 0, none⟩)) = some (.agg #[.int .i64 x.1, .int .i64 x.2]) := fun l => by
    rw [load_rdON, List.getElem?_append_left (by omega), g0 _ (by omega), J.c0]; rfl
   have b2 : ∀ l, (G ++ l)[n + 1]? = some (.cells [.int .i64 0, .int .i64 0] 68 true 0 []) := fun l => by
    rw [List.getElem?_append_left (by omega), g0 _ (by omega), J.c1]
   have b3 : ∀ l X, ((G ++ l).set (n + 1) X)[n + 2]? = some (.cells [.int .i64 0, .int .i64 0] 68 true 0 []) := fun l X => by
    rw [List.getElem?_set_ne (by omega), List.getElem?_append_left (by omega), g0 _ (by omega), J.c2]
   have c1 := c.1
   have c2 := c.2
   unfold rfB73_0
   repeat (first | apply Z1 | apply Z2 | apply Z3 | apply Z4 | apply Z5 rfl | apply Z6 | apply Z7 | apply Z8 | apply Z9 | apply ZA | apply ZB | apply ZC | ((first | apply ZD (by decide) | apply ZN (by decide)); (simp (maxSteps := 9999999) only [go_sem, k1, k2, k3, k4, b1, b2, b3, c65, c78, c1, c2]; rfl)) | (refine ZE ?_ ?_; · simp only [go_sem]) | (refine ZF ?_ ?_; · simp only [go_sem]))
   have hL : ∀ l X Y, (((G ++ l).set (n + 1) X).set (n + 2) Y)[n + 4]? = some (.loop 1 73 t [7] rfA73_0 rfB73_0 none (n + 3)) := fun l X Y => by
    rw [List.getElem?_set_ne (by omega), List.getElem?_set_ne (by omega), List.getElem?_append_left (by omega), g1]
   refine end_nil ⟨⟨_, _, _, _, _, _, _, _, hL _ _ _⟩, _, rfl, ?_⟩
   show JG n x u t H (setLoop _ (n + 4) 2 (some .ret))
   rw [setLoop_eq (hL _ _ _)]
   refine ⟨by simp; omega, fun j hj => ?_, ?_, ?_, ?_, ?_⟩
   ·rw [List.getElem?_set_ne (by omega), List.getElem?_set_ne (by omega), List.getElem?_set_ne (by omega), List.getElem?_append_left (by omega), g0 _ (by omega)]; exact J.low j hj
   ·rw [List.getElem?_set_ne (by omega), List.getElem?_set_ne (by omega), List.getElem?_set_self (by simp; omega)]
   ·rw [List.getElem?_set_ne (by omega), List.getElem?_set_self (by simp; omega)]
   ·rw [List.getElem?_set_ne (by omega), List.getElem?_set_ne (by omega), List.getElem?_set_ne (by omega), List.getElem?_append_left (by omega), g0 _ (by omega)]; exact J.df
   ·rw [List.getElem?_set_self (by simp; omega)])
  exact ⟨hh', fun _ => ⟨e, hP⟩, fun h => (h c).elim⟩
 ·obtain ⟨r, ⟨hh', rfl, hP⟩, e⟩ := round_rule (FT := FT0) (C := flatK CA) (base := base) (args := [agV u]) (fun r => ∃ hh', r = (.bool true, hh', []) ∧ hh.length ≤ hh'.length ∧ ∀ j, j < hh.length → hh'[j]? = hh[j]?) J.lp hf rfl (by decide) rfl (by
   refine run_imp hbase ?_
   rintro ex ρ1 ms1 h1 d1 ⟨rfl, rfl, rfl, rfl, k1, k2, k3, k4⟩
   refine ⟨rfl, ⟨73, t, [7], _, _, n + 3, hl1⟩, ?_⟩
   rw [setLoop_eq hl1, hset]
   rw [← g2] at k4
   have gl := g2
   generalize hh.set (n + 4) (.loop 1 73 t [7] rfA73_0 rfB73_0 none (n + 3)) = G at *
   have b1 : ∀ l, loadS (G ++ l) (some 2) (.pointer (some ⟨n, 0, none⟩)) = some (.agg #[.int .i64 x.1, .int .i64 x.2]) := fun l => by
    rw [load_rdON, List.getElem?_append_left (by omega), g0 _ (by omega), J.c0]; rfl
   have hL : ∀ l, (G ++ l)[n + 4]? = some (.loop 1 73 t [7] rfA73_0 rfB73_0 none (n + 3)) := fun l => by
    rw [List.getElem?_append_left (by omega), g1]
   have fin : ∀ l, (∃ st' fn' t' ps' as' body' pd df', (G ++ l)[n + 4]? = some (SO.loop st' fn' t' ps' as' body' pd df')) ∧ ∃ hh', (Value.bool true, setLoop (G ++ l) (n + 4) 0 none, ([] : List Nat)) = (.bool true, hh', []) ∧ hh.length ≤ hh'.length ∧ ∀ j, j < hh.length → hh'[j]? = hh[j]? := by
    intro l
    refine ⟨⟨_, _, _, _, _, _, _, _, hL l⟩, _, rfl, ?_⟩
    rw [setLoop_eq (hL l)]
    refine ⟨by simp; omega, fun j hj => ?_⟩
    by_cases e : j = n + 4
    ·subst e
     rw [List.getElem?_set_self (by simp; omega), J.lp]
    ·rw [List.getElem?_set_ne (by omega), List.getElem?_append_left (by omega), g0 _ e]
   unfold rfB73_0
   by_cases c1 : 0 < (mulP x u).1
   ·have c2 : ¬ 0 ≤ (mulP x u).2 := fun e => c ⟨c1, e⟩
    repeat (first | apply Z1 | apply Z2 | apply Z3 | apply Z4 | apply Z5 rfl | apply Z6 | apply Z7 | apply Z8 | apply Z9 | apply ZA | apply ZB | apply ZC | ((first | apply ZD (by decide) | apply ZN (by decide)); (simp (maxSteps := 9999999) only [go_sem, k1, k2, k3, k4, b1, c65, c78, c1, c2]; rfl)) | (refine ZE ?_ ?_; · simp only [go_sem]) | (refine ZF ?_ ?_; · simp only [go_sem]))
    exact end_nil (fin _)
   ·repeat (first | apply Z1 | apply Z2 | apply Z3 | apply Z4 | apply Z5 rfl | apply Z6 | apply Z7 | apply Z8 | apply Z9 | apply ZA | apply ZB | apply ZC | ((first | apply ZD (by decide) | apply ZN (by decide)); (simp (maxSteps := 9999999) only [go_sem, k1, k2, k3, k4, b1, c65, c78, c1]; rfl)) | (refine ZE ?_ ?_; · simp only [go_sem]) | (refine ZF ?_ ?_; · simp only [go_sem]))
    exact end_nil (fin _))
  exact ⟨hh', fun h => (c h).elim, fun _ => ⟨e, hP⟩⟩
end
end Go.Proofs.YtdmfhdnpakgkpaaDoor.Sh
namespace Go.Proofs.YtdmfhdnpakgkpaaDoor.Sh
section
open Go
set_option maxRecDepth 100000
theorem unit_bd (k : Nat) : Bd 1 (unitK k) := by
 match k with
 | 0 => decide
 | 1 => decide
 | 2 => decide
 | k + 3 => exact (by decide : Bd 1 ((0 : Int), (-1 : Int)))
theorem unit_next {k : Nat} (hk : k < 4) : mulP (unitK k) (0, 1) = if k = 3 then (1, 0) else unitK (k + 1) := by
 match k, hk with
 | 0, _ => decide
 | 1, _ => decide
 | 2, _ => decide
 | 3, _ => decide
theorem unit_ne {k : Nat} (hk : k < 3) : ¬ ((unitK (k + 1)).1 = 1) := by
 match k, hk with
 | 0, _ => decide
 | 1, _ => decide
 | 2, _ => decide
theorem firstU_at {p : Int × Int} {k : Nat} (hk : k < 4) (h : isF (mulP p (unitK k))) (hno : ∀ i, i < k → ¬ isF (mulP p (unitK i))) : firstU p = unitK k := by
 unfold firstU
 have a0 : 0 < k → ¬ isF p := fun e => by
  have := hno 0 e
  rwa [show unitK 0 = (1, 0) from rfl, mul_one] at this
 have a1 : 1 < k → ¬ isF (mulP p (0, 1)) := fun e => hno 1 e
 have a2 : 2 < k → ¬ isF (mulP p (-1, 0)) := fun e => hno 2 e
 match k, hk with
 | 0, _ =>
  rw [show unitK 0 = (1, 0) from rfl, mul_one] at h
  rw [if_pos h]; rfl
 | 1, _ => rw [if_neg (a0 (by omega)), if_pos (show isF (mulP p (0, 1)) from h)]; rfl
 | 2, _ => rw [if_neg (a0 (by omega)), if_neg (a1 (by omega)), if_pos (show isF (mulP p (-1, 0)) from h)]; rfl
 | 3, _ => rw [if_neg (a0 (by omega)), if_neg (a1 (by omega)), if_neg (a2 (by omega)), if_pos (show isF (mulP p (0, -1)) from h)]; rfl
theorem firstU_no {p : Int × Int} (hno : ∀ i, i < 4 → ¬ isF (mulP p (unitK i))) : firstU p = (1, 0) := by
 unfold firstU
 have n0 := hno 0 (by omega)
 rw [show unitK 0 = (1, 0) from rfl, mul_one] at n0
 rw [if_neg n0, if_neg (show ¬ isF (mulP p (0, 1)) from hno 1 (by omega)), if_neg (show ¬ isF (mulP p (-1, 0)) from hno 2 (by omega)), if_neg (show ¬ isF (mulP p (0, -1)) from hno 3 (by omega))]
theorem units_loop (cx : Cx) {n : Nat} {x : Int × Int} {t : T} {H : SHeap} (hx : Bd 1000000000 x) (hf : Full 5 t) (t1 : t.get 1 = .pointer (some ⟨n, 0, none⟩)) (t2 : t.get 2 = .pointer (some ⟨n + 1, 0, none⟩)) (t3 : t.get 3 = .pointer (some ⟨n + 2, 0, none⟩)) :
  ∀ m ρ ms h' d', (∃ k c : Nat, k + m = 4 ∧ 1 ≤ m ∧ ρ 0 = .func (.yield (n + 4)) #[] #[] ∧ ρ 2 = .pointer (some ⟨c, 0, none⟩) ∧ n + 5 ≤ c ∧ h'[c]? = some (.cells [.int .i64 (unitK k).1, .int .i64 (unitK k).2] 68 true 0 []) ∧ JF n x t H h' ∧ (∀ i, i < k → ¬ isF (mulP x (unitK i))) ∧ ms = [] ∧ d' = []) →
  LoopW M cx 4 sf109L0 ρ ms h' d' (fun ex ρ' ms' h' d' => ms' = [] ∧ d' = [] ∧ ((ex = .exit 0 ∧ JG n x (firstU x) t H h') ∨ (ex = .ret ∧ firstU x = (1, 0) ∧ (∀ i, i < 4 → ¬ isF (mulP x (unitK i))) ∧ JF n x t H h'))) := by
 refine loop_run _ ?_
 rintro m ρ ms h' d' ⟨k, c, hk, hm, r0, r2, hc, hcell, J, hno, rfl, rfl⟩
 have jl := J.len
 have hcl : c < h'.length := (List.getElem?_eq_some_iff.1 hcell).1
 have b1 : loadS h' (some 2) (.pointer (some ⟨c, 0, none⟩)) = some (.agg #[.int .i64 (unitK k).1, .int .i64 (unitK k).2]) := by rw [load_rdON, hcell]; rfl
 obtain ⟨hh', y1, y2⟩ := first_round (base := cx.base) hx (unit_bd k) hf t1 t2 t3 J
 unfold sf109L0
 by_cases hF : isF (mulP x (unitK k))
 ·obtain ⟨e, G⟩ := y1 hF
  repeat (first | apply Z1 | apply Z2 | apply Z3 | apply Z4 | apply Z5 rfl | apply Z6 | apply Z7 | apply Z8 | apply Z9 | apply ZA | apply ZB | apply ZC | ((first | apply ZD (by decide) | apply ZN (by decide)); (simp (maxSteps := 9999999) only [go_sem, r0, r2, b1, e]; rfl)) | (refine ZE ?_ ?_; · simp only [go_sem]) | (refine ZF ?_ ?_; · simp only [go_sem]))
  refine end_nil ⟨rfl, rfl, .inl ⟨rfl, ?_⟩⟩
  rw [firstU_at (by omega) hF hno]
  exact G
 ·obtain ⟨e, e1, e2⟩ := y2 hF
  have b2 : loadS hh' (some 2) (.pointer (some ⟨c, 0, none⟩)) = some (.agg #[.int .i64 (unitK k).1, .int .i64 (unitK k).2]) := by rw [load_rdON, e2 c hcl, hcell]; rfl
  have c65 := fun h => times65 (unit_bd k) (show Bd 1 ((0 : Int), (1 : Int)) by decide) (by decide) h
  have b3 : hh'[c]? = some (.cells [.int .i64 (unitK k).1, .int .i64 (unitK k).2] 68 true 0 []) := by rw [e2 c hcl, hcell]
  have un := unit_next (k := k) (by omega)
  have hno' : ∀ i, i < k + 1 → ¬ isF (mulP x (unitK i)) := fun i hi => by
   by_cases e : i = k
   ·subst e; exact hF
   ·exact hno i (by omega)
  have b4 : ∀ v, loadS (hh'.set c (.cells v 68 true 0 [])) (some 2) (.pointer (some ⟨c, 0, none⟩)) = rdON (some (.cells v 68 true 0 [])) 0 2 := fun v => by rw [load_rdON, List.getElem?_set_self (by omega)]
  have JK : ∀ v g, JF n x t H (hh'.set c (.cells v 68 true 0 []) ++ g) := fun v g => by
   have key : ∀ j, j < n + 5 → (hh'.set c (.cells v 68 true 0 []) ++ g)[j]? = h'[j]? := fun j hj => by
    rw [List.getElem?_append_left (by simp; omega), List.getElem?_set_ne (by omega), e2 j (by omega)]
   exact ⟨by simp; omega, fun j hj => by rw [key j (by omega)]; exact J.low j hj, by rw [key _ (by omega)]; exact J.c0, by rw [key _ (by omega)]; exact J.c1, by rw [key _ (by omega)]; exact J.c2, by rw [key _ (by omega)]; exact J.df, by rw [key _ (by omega)]; exact J.lp⟩
  by_cases h3 : k = 3
  ·rw [if_pos h3] at un
   dsimp only at c65
   rw [un] at c65
   repeat (first | apply Z1 | apply Z2 | apply Z3 | apply Z4 | apply Z5 rfl | apply Z6 | apply Z7 | apply Z8 | apply Z9 | apply ZA | apply ZB | apply ZC | ((first | apply ZD (by decide) | apply ZN (by decide)); (simp (maxSteps := 9999999) only [go_sem, r0, r2, b1, e, b2, c65, b3, b4]; rfl)) | (refine ZE ?_ ?_; · simp only [go_sem]) | (refine ZF ?_ ?_; · simp only [go_sem]))
   refine end_nil ⟨rfl, rfl, .inr ⟨rfl, firstU_no (fun i hi => hno' i (by omega)), fun i hi => hno' i (by omega), ?_⟩⟩
   have := JK [.int .i64 1, .int .i64 0] []
   rw [List.append_nil] at this
   exact this
  ·rw [if_neg h3] at un
   dsimp only at c65
   rw [un] at c65
   have u1 := unit_ne (k := k) (by omega)
   repeat (first | apply Z1 | apply Z2 | apply Z3 | apply Z4 | apply Z5 rfl | apply Z6 | apply Z7 | apply Z8 | apply Z9 | apply ZA | apply ZB | apply ZC | ((first | apply ZD (by decide) | apply ZN (by decide)); (simp (maxSteps := 9999999) only [go_sem, r0, r2, b1, e, b2, c65, b3, b4, u1]; rfl)) | (refine ZE ?_ ?_; · simp only [go_sem]) | (refine ZF ?_ ?_; · simp only [go_sem]))
   refine end_nil ⟨m - 1, by omega, k + 1, _, by omega, by omega, ?_, by simp only [go_sem]; rfl, ?_, ?_, JK _ _, hno', rfl, rfl⟩
   ·simp only [go_sem, r0]
   ·simp; omega
   ·simp
end
end Go.Proofs.YtdmfhdnpakgkpaaDoor.Sh
namespace Go.Proofs.YtdmfhdnpakgkpaaDoor.Sh
section
open Go
set_option maxRecDepth 100000
theorem JF.cut {n : Nat} {x : Int × Int} {t : T} {H h : SHeap} (J : JF n x t H h) : JF n x t H (h.take (n + 5)) := by
 have jl := J.len
 have key : ∀ j, j < n + 5 → (h.take (n + 5))[j]? = h[j]? := fun j hj => by rw [List.getElem?_take, if_pos hj]
 exact ⟨by simp; omega, fun j hj => by rw [key j (by omega)]; exact J.low j hj, by rw [key _ (by omega)]; exact J.c0, by rw [key _ (by omega)]; exact J.c1, by rw [key _ (by omega)]; exact J.c2, by rw [key _ (by omega)]; exact J.df, by rw [key _ (by omega)]; exact J.lp⟩
theorem JG.cut {n : Nat} {x u : Int × Int} {t : T} {H h : SHeap} (J : JG n x u t H h) : JG n x u t H (h.take (n + 5)) := by
 have jl := J.len
 have key : ∀ j, j < n + 5 → (h.take (n + 5))[j]? = h[j]? := fun j hj => by rw [List.getElem?_take, if_pos hj]
 exact ⟨by simp; omega, fun j hj => by rw [key j (by omega)]; exact J.low j hj, by rw [key _ (by omega)]; exact J.c1, by rw [key _ (by omega)]; exact J.c2, by rw [key _ (by omega)]; exact J.df, by rw [key _ (by omega)]; exact J.lp⟩
theorem units109 {n : Nat} {x : Int × Int} {t : T} {H H1 : SHeap} (hx : Bd 1000000000 x) (hf : Full 5 t) (t1 : t.get 1 = .pointer (some ⟨n, 0, none⟩)) (t2 : t.get 2 = .pointer (some ⟨n + 1, 0, none⟩)) (t3 : t.get 3 = .pointer (some ⟨n + 2, 0, none⟩)) (J : JF n x t H H1) (hl : H1.length = n + 5) :
  ∃ hF, M.call 109 [.func (.yield (n + 4)) #[] #[]] H1 = some (.tuple #[], hF, []) ∧ (JG n x (firstU x) t H hF ∨ (firstU x = (1, 0) ∧ JF n x t H hF)) := by
 have key : ∃ r, (∃ hF, r = (Value.tuple #[], hF, ([] : List Nat)) ∧ (JG n x (firstU x) t H hF ∨ (firstU x = (1, 0) ∧ JF n x t H hF))) ∧ M.call 109 [.func (.yield (n + 4)) #[] #[]] H1 = some r := by
  refine call_ex (f := 109) _ sf109 rfl rfl rfl ?_
  unfold sf109
  repeat (first | apply Z1 | apply Z2 | apply Z3 | apply Z4 | apply Z5 rfl | apply Z6 | apply Z7 | apply Z8 | apply Z9 | apply ZA | apply ZB | apply ZC | ((first | apply ZD (by decide) | apply ZN (by decide)); (simp (maxSteps := 9999999) only [go_sem, argR]; rfl)) | (refine ZE ?_ ?_; · simp only [go_sem]) | (refine ZF ?_ ?_; · simp only [go_sem]))
  refine run_loop (units_loop (H := H) _ hx hf t1 t2 t3 4 _ _ _ _ ⟨0, H1.length, rfl, by omega, by simp only [go_sem, argR], by simp only [go_sem], by omega, by rw [app_get0]; rfl, ?_, fun i hi => by omega, rfl, rfl⟩) ?_
  ·have key : ∀ j, j < n + 5 → (H1 ++ [SO.cells [.int .i64 1, .int .i64 0] 68 true 0 []])[j]? = H1[j]? := fun j hj => List.getElem?_append_left (by omega)
   exact ⟨by simp; omega, fun j hj => by rw [key j (by omega)]; exact J.low j hj, by rw [key _ (by omega)]; exact J.c0, by rw [key _ (by omega)]; exact J.c1, by rw [key _ (by omega)]; exact J.c2, by rw [key _ (by omega)]; exact J.df, by rw [key _ (by omega)]; exact J.lp⟩
  rintro ex ρ' ms' h1 d1 ⟨rfl, rfl, ⟨rfl, G⟩ | ⟨rfl, hu, _, J'⟩⟩
  ·repeat (first | apply Z1 | apply Z2 | apply Z3 | apply Z4 | apply Z5 rfl | apply Z6 | apply Z7 | apply Z8 | apply Z9 | apply ZA | apply ZB | apply ZC | ((first | apply ZD (by decide) | apply ZN (by decide)); (simp (maxSteps := 9999999) only [go_sem]; rfl)) | (refine ZE ?_ ?_; · simp only [go_sem]) | (refine ZF ?_ ?_; · simp only [go_sem]))
   exact end_nil ⟨_, ⟨h1.take (n + 5), rfl, .inl G.cut⟩, q_free [] rfl rfl rfl rfl (fun _ => rfl) (by rw [hl]) rfl⟩
  ·repeat (first | apply Z1 | apply Z2 | apply Z3 | apply Z4 | apply Z5 rfl | apply Z6 | apply Z7 | apply Z8 | apply Z9 | apply ZA | apply ZB | apply ZC | ((first | apply ZD (by decide) | apply ZN (by decide)); (simp (maxSteps := 9999999) only [go_sem]; rfl)) | (refine ZE ?_ ?_; · simp only [go_sem]) | (refine ZF ?_ ?_; · simp only [go_sem]))
   exact end_nil ⟨_, ⟨h1.take (n + 5), rfl, .inr ⟨hu, J'.cut⟩⟩, q_free [] rfl rfl rfl rfl (fun _ => rfl) (by rw [hl]) rfl⟩
 obtain ⟨r, ⟨hF, rfl, k⟩, e⟩ := key
 exact ⟨hF, e, k⟩
theorem first73 {x : Int × Int} (hx : Bd 1000000000 x) (h : SHeap) : M.call 73 [agV x] h = some (.tuple #[agV (firP x).1, agV (firP x).2], h, []) := by
 have c88 : ∀ h, M.call 88 [] h = some (.func (.func 109) #[] #[], h, []) := by
  intro h
  refine call_run sf88 rfl rfl rfl ?_
  unfold sf88
  repeat (first | apply Z1 | apply Z2 | apply Z3 | apply Z4 | apply Z5 rfl | apply Z6 | apply Z7 | apply Z8 | apply Z9 | apply ZA | apply ZB | apply ZC | ((first | apply ZD (by decide) | apply ZN (by decide)); (simp (maxSteps := 9999999) only [go_sem, argR]; rfl)) | (refine ZE ?_ ?_; · simp only [go_sem]) | (refine ZF ?_ ?_; · simp only [go_sem]))
  exact end_nil (q_free [.func (.func 109) #[] #[]] (by simp only [go_sem]) rfl rfl rfl (fun _ => rfl) (take_self _) rfl)
 refine call_run sf73 rfl rfl rfl ?_
 unfold sf73
 repeat (first | apply Z1 | apply Z2 | apply Z3 | apply Z4 | apply Z5 rfl | apply Z6 | apply Z7 | apply Z8 | apply Z9 | apply ZA | apply ZB | apply ZC | ((first | apply ZD (by decide) | apply ZN (by decide)); (simp (maxSteps := 9999999) only [go_sem, argR, c88]; rfl)) | (refine ZE ?_ ?_; · simp only [go_sem]) | (refine ZF ?_ ?_; · simp only [go_sem]))
 show Run M _ 5 (.rangeFunc (.tmp 6) [7] rfA73_0 rfB73_0) _ _ _ _ _ _
 refine run_range (g := 109) (caps := #[]) rfl (by simp only [go_sem]) ?_
 intro t hf ht
 have t1 : t.get 1 = .pointer (some ⟨h.length, 0, none⟩) := by rw [ht]; simp only [go_sem]
 have t2 : t.get 2 = .pointer (some ⟨h.length + 1, 0, none⟩) := by rw [ht]; simp only [go_sem]
 have t3 : t.get 3 = .pointer (some ⟨h.length + 2, 0, none⟩) := by rw [ht]; simp only [go_sem]
 rw [← ht]
 have hl : (h ++ [SO.cells [.int .i64 x.1, .int .i64 x.2] 68 true 0 [], SO.cells [.int .i64 0, .int .i64 0] 68 true 0 [], SO.cells [.int .i64 0, .int .i64 0] 68 true 0 []]).length = h.length + 3 := by simp
 have J : JF h.length x t h (h ++ [SO.cells [.int .i64 x.1, .int .i64 x.2] 68 true 0 [], SO.cells [.int .i64 0, .int .i64 0] 68 true 0 [], SO.cells [.int .i64 0, .int .i64 0] 68 true 0 []] ++ [.deferred, .loop 0 73 t [7] rfA73_0 rfB73_0 none (h.length + 3)]) := by
  rw [List.append_assoc]
  exact ⟨by simp, fun j hj => List.getElem?_append_left hj, by rw [app_get0]; rfl, by rw [app_get]; rfl, by rw [app_get]; rfl, by rw [app_get]; rfl, by rw [app_get]; rfl⟩
 obtain ⟨hF, e, k⟩ := units109 hx hf t1 t2 t3 J (by simp)
 rw [hl]
 rcases k with G | ⟨hu, J'⟩
 ·refine ⟨_, hF, [], e, _, _, _, _, _, _, _, _, G.lp, rfl, .inr ⟨rfl, ?_⟩⟩
  rw [setLoop_eq G.lp]
  have gl := G.len
  repeat (first | apply Z1 | apply Z2 | apply Z3 | apply Z4 | apply Z5 rfl | apply Z6 | apply Z7 | apply Z8 | apply Z9 | apply ZA | apply ZB | apply ZC | ((first | apply ZD (by decide) | apply ZN (by decide)); (simp (maxSteps := 9999999) only [go_sem]; rfl)) | (refine ZE ?_ ?_; · simp only [go_sem]) | (refine ZF ?_ ?_; · simp only [go_sem]))
  have sh : shut (hF.set (h.length + 4) (.loop 3 73 t [7] rfA73_0 rfB73_0 (some .ret) (h.length + 3))) [h.length + 3] = some ((hF.set (h.length + 4) (.loop 3 73 t [7] rfA73_0 rfB73_0 (some .ret) (h.length + 3))).set (h.length + 3) .gone) := by
   simp only [shut]
   rw [List.getElem?_set_ne (by omega), G.df]
  have l1 : loadS ((hF.set (h.length + 4) (.loop 3 73 t [7] rfA73_0 rfB73_0 (some .ret) (h.length + 3))).set (h.length + 3) .gone) (some 2) (.pointer (some ⟨h.length + 1, 0, none⟩)) = some (agV (mulP x (firstU x))) := by
   rw [load_rdON, List.getElem?_set_ne (by omega), List.getElem?_set_ne (by omega), G.c1]; rfl
  have l2 : loadS ((hF.set (h.length + 4) (.loop 3 73 t [7] rfA73_0 rfB73_0 (some .ret) (h.length + 3))).set (h.length + 3) .gone) (some 2) (.pointer (some ⟨h.length + 2, 0, none⟩)) = some (agV (conjP (firstU x))) := by
   rw [load_rdON, List.getElem?_set_ne (by omega), List.getElem?_set_ne (by omega), G.c2]; rfl
  refine end_nil (q_any [agV (mulP x (firstU x)), agV (conjP (firstU x))] sh (by simp only [go_sem, t2, t3, l1, l2]) rfl rfl rfl (fun _ => rfl) ?_ rfl)
  exact take_of_same (by simp; omega) (fun j hj => by rw [List.getElem?_set_ne (by omega), List.getElem?_set_ne (by omega)]; exact G.low j hj)
 ·refine ⟨_, hF, [], e, _, _, _, _, _, _, _, _, J'.lp, rfl, .inl ⟨rfl, ?_⟩⟩
  rw [setLoop_eq J'.lp]
  have jl := J'.len
  have g0 : ∀ j, j ≠ h.length + 4 → (hF.set (h.length + 4) (.loop 3 73 t [7] rfA73_0 rfB73_0 none (h.length + 3)))[j]? = hF[j]? := fun j hj => by rw [List.getElem?_set_ne (by omega)]
  have gln : (hF.set (h.length + 4) (.loop 3 73 t [7] rfA73_0 rfB73_0 none (h.length + 3))).length = hF.length := by simp
  generalize hF.set (h.length + 4) (.loop 3 73 t [7] rfA73_0 rfB73_0 none (h.length + 3)) = G at *
  have b0 : loadS G (some 2) (.pointer (some ⟨h.length, 0, none⟩)) = some (.agg #[.int .i64 x.1, .int .i64 x.2]) := by
   rw [load_rdON, g0 _ (by omega), J'.c0]; rfl
  have b1 : G[h.length + 1]? = some (.cells [.int .i64 0, .int .i64 0] 68 true 0 []) := by rw [g0 _ (by omega), J'.c1]
  have b2 : ∀ X, (G.set (h.length + 1) X)[h.length + 2]? = some (.cells [.int .i64 0, .int .i64 0] 68 true 0 []) := fun X => by
   rw [List.getElem?_set_ne (by omega), g0 _ (by omega), J'.c2]
  have b0' : ∀ X, loadS (G.set (h.length + 1) X) (some 2) (.pointer (some ⟨h.length, 0, none⟩)) = some (.agg #[.int .i64 x.1, .int .i64 x.2]) := fun X => by
   rw [load_rdON, List.getElem?_set_ne (by omega), g0 _ (by omega), J'.c0]; rfl
  repeat (first | apply Z1 | apply Z2 | apply Z3 | apply Z4 | apply Z5 rfl | apply Z6 | apply Z7 | apply Z8 | apply Z9 | apply ZA | apply ZB | apply ZC | ((first | apply ZD (by decide) | apply ZN (by decide)); (simp (maxSteps := 9999999) only [go_sem, t1, t2, t3, b0, b1, b2, b0']; rfl)) | (refine ZE ?_ ?_; · simp only [go_sem]) | (refine ZF ?_ ?_; · simp only [go_sem]))
  have f1 : (firP x).1 = x := by unfold firP; rw [hu, mul_one]
  have f2 : (firP x).2 = (1, 0) := by unfold firP; rw [hu]; show conjP (1, 0) = (1, 0); decide
  rw [f1, f2]
  have sh : ∀ X Y, shut ((G.set (h.length + 1) X).set (h.length + 2) Y) [h.length + 3] = some (((G.set (h.length + 1) X).set (h.length + 2) Y).set (h.length + 3) .gone) := fun X Y => by
   simp only [shut]
   rw [List.getElem?_set_ne (by omega), List.getElem?_set_ne (by omega), g0 _ (by omega), J'.df]
  have l1 : ∀ X Y Z, loadS (((G.set (h.length + 1) X).set (h.length + 2) Y).set (h.length + 3) Z) (some 2) (.pointer (some ⟨h.length + 1, 0, none⟩)) = rdON (some X) 0 2 := fun X Y Z => by
   rw [load_rdON, List.getElem?_set_ne (by omega), List.getElem?_set_ne (by omega), List.getElem?_set_self (by omega)]
  have l2 : ∀ X Y Z, loadS (((G.set (h.length + 1) X).set (h.length + 2) Y).set (h.length + 3) Z) (some 2) (.pointer (some ⟨h.length + 2, 0, none⟩)) = rdON (some Y) 0 2 := fun X Y Z => by
   rw [load_rdON, List.getElem?_set_ne (by omega), List.getElem?_set_self (by simp; omega)]
  refine end_nil (q_any [agV x, agV (1, 0)] (sh _ _) (by simp only [go_sem, t2, t3, l1, l2]) rfl rfl rfl (fun _ => rfl) ?_ rfl)
  exact take_of_same (by simp; omega) (fun j hj => by rw [List.getElem?_set_ne (by omega), List.getElem?_set_ne (by omega), List.getElem?_set_ne (by omega), g0 _ (by omega)]; exact J'.low j hj)
end
end Go.Proofs.YtdmfhdnpakgkpaaDoor.Sh
namespace Go.Proofs.YtdmfhdnpakgkpaaDoor.Sh
section
open Go
set_option maxRecDepth 100000
theorem firP_0 : firP (0, 0) = ((0, 0), (1, 0)) := by decide
theorem firP_yes {p : Int × Int} (h : isF p) : firP p = (p, (1, 0)) := by
 unfold firP firstU
 rw [if_pos h, mul_one]; rfl
theorem isF_iff (a b : Int) : isF (a, b) ↔ 0 < a ∧ 0 ≤ b := Iff.rfl
theorem isF_turn {p : Int × Int} (h0 : p ≠ (0, 0)) (h : ¬ isF p) : (firP p).1 = (firP (mulP p (0, -1))).1 ∧ (firP p).2 = mulP (firP (mulP p (0, -1))).2 (0, 1) := by
 have hne : ¬ (p.1 = 0 ∧ p.2 = 0) := fun e => h0 (Prod.ext e.1 e.2)
 obtain ⟨a, b⟩ := p
 dsimp only at hne
 unfold firP firstU
 rw [mul_i, mul_m, mul_mi, mul_i, mul_m, mul_mi]
 dsimp only
 rw [if_neg h]
 rw [isF_iff] at h
 by_cases c1 : 0 < -b ∧ 0 ≤ a
 ·rw [if_pos ((isF_iff _ _).2 c1), if_neg (show ¬ isF (b, -a) by rw [isF_iff]; omega), if_neg (show ¬ isF (- -a, b) by rw [isF_iff]; omega), if_pos (show isF (-b, - -a) by rw [isF_iff]; omega)]
  constructor
  ·unfold mulP; refine Prod.ext ?_ ?_ <;> dsimp only <;> omega
  ·decide
 ·rw [if_neg (fun e => c1 ((isF_iff _ _).1 e))]
  by_cases c2 : 0 < -a ∧ 0 ≤ -b
  ·rw [if_pos ((isF_iff _ _).2 c2), if_neg (show ¬ isF (b, -a) by rw [isF_iff]; omega), if_neg (show ¬ isF (- -a, b) by rw [isF_iff]; omega), if_neg (show ¬ isF (-b, - -a) by rw [isF_iff]; omega), if_pos (show isF (-a, -b) by rw [isF_iff]; omega)]
   constructor
   ·unfold mulP; refine Prod.ext ?_ ?_ <;> dsimp only <;> omega
   ·decide
  ·rw [if_neg (fun e => c2 ((isF_iff _ _).1 e))]
   by_cases c3 : 0 < b ∧ 0 ≤ -a
   ·rw [if_pos ((isF_iff _ _).2 c3), if_pos ((isF_iff _ _).2 c3)]
    constructor
    ·unfold mulP; refine Prod.ext ?_ ?_ <;> dsimp only <;> omega
    ·decide
   ·omega
end
end Go.Proofs.YtdmfhdnpakgkpaaDoor.Sh
namespace Go.Proofs.YtdmfhdnpakgkpaaDoor.Sh
section
open Go
set_option maxRecDepth 100000
def turnsN (p : Int × Int) : Nat := if isF p then 0 else if isF (mulP p (0, -1)) then 1 else if isF (mulP p (-1, 0)) then 2 else 3
theorem turns_step {p : Int × Int} (h0 : p ≠ (0, 0)) (h : ¬ isF p) : turnsN (mulP p (0, -1)) < turnsN p := by
 have e1 : mulP (mulP p (0, -1)) (0, -1) = mulP p (-1, 0) := by unfold mulP; refine Prod.ext ?_ ?_ <;> dsimp only <;> grind
 have e2 : mulP (mulP p (0, -1)) (-1, 0) = mulP p (0, 1) := by unfold mulP; refine Prod.ext ?_ ?_ <;> dsimp only <;> grind
 unfold turnsN
 rw [if_neg h, e1, e2]
 by_cases c1 : isF (mulP p (0, -1))
 ·rw [if_pos c1, if_pos c1]; decide
 ·rw [if_neg c1, if_neg c1]
  by_cases c2 : isF (mulP p (-1, 0))
  ·rw [if_pos c2, if_pos c2]; decide
  ·rw [if_neg c2, if_neg c2]
   have c3 : isF (mulP p (0, 1)) := by
    rcases first_ex h0 with k | k | k | k
    ·exact (h k).elim
    ·exact k
    ·exact (c2 k).elim
    ·exact (c1 k).elim
   rw [if_pos c3]; decide
theorem turn_bd {p : Int × Int} {A : Int} (h : Bd A p) : Bd A (mulP p (0, -1)) := by
 obtain ⟨a, b, c, d⟩ := h
 rw [mul_mi]
 refine ⟨?_, ?_, ?_, ?_⟩ <;> dsimp only <;> omega
theorem turn_bd' {p : Int × Int} {A : Int} (h : Bd A p) : Bd A (mulP p (0, 1)) := by
 obtain ⟨a, b, c, d⟩ := h
 rw [mul_i]
 refine ⟨?_, ?_, ?_, ?_⟩ <;> dsimp only <;> omega
theorem turn_ne {p : Int × Int} (h : p ≠ (0, 0)) : mulP p (0, -1) ≠ (0, 0) := by
 rw [mul_mi]
 intro e
 have e1 : p.2 = 0 := congrArg Prod.fst e
 have e2 : -p.1 = 0 := congrArg Prod.snd e
 exact h (Prod.ext (by omega) e1)
theorem mul_turn (a u : Int × Int) : mulP (mulP a (0, 1)) u = mulP a (mulP u (0, 1)) := by
 unfold mulP; refine Prod.ext ?_ ?_ <;> dsimp only <;> grind
theorem one_mul (p : Int × Int) : mulP (1, 0) p = p := by unfold mulP; refine Prod.ext ?_ ?_ <;> dsimp only <;> omega
theorem firstR_loop (cx : Cx) {x0 : Int × Int} (H : SHeap) : ∀ k ρ ms h' d', (∃ x u : Int × Int, turnsN x = k ∧ x ≠ (0, 0) ∧ Bd 1000000000 x ∧ Bd 1 u ∧ (firP x0).1 = (firP x).1 ∧ (firP x0).2 = mulP (firP x).2 u ∧ ρ 1 = .pointer (some ⟨H.length, 0, none⟩) ∧ ρ 2 = .pointer (some ⟨H.length + 1, 0, none⟩) ∧ ρ 3 = .pointer (some ⟨H.length + 2, 0, none⟩) ∧ ρ 4 = .pointer (some ⟨H.length + 3, 0, none⟩) ∧ h' = H ++ [bx x, bz, bz, bx u] ∧ ms = [] ∧ d' = []) →
  LoopW M cx 5 sf43L0 ρ ms h' d' (fun ex ρ' ms' h' d' => ex = .exit 0 ∧ ms' = [] ∧ d' = [] ∧ h' = H ++ [bx (firP x0).1, bz, bz, bx (firP x0).2] ∧ ρ' 1 = .pointer (some ⟨H.length, 0, none⟩) ∧ ρ' 2 = .pointer (some ⟨H.length + 1, 0, none⟩) ∧ ρ' 3 = .pointer (some ⟨H.length + 2, 0, none⟩) ∧ ρ' 4 = .pointer (some ⟨H.length + 3, 0, none⟩)) := by
 refine loop_run _ ?_
 rintro k ρ ms h' d' ⟨x, u, hk, hx0, hx, hu, i1, i2, r1, r2, r3, r4, rfl, rfl, rfl⟩
 unfold sf43L0
 by_cases c : isF x
 ·have e := firP_yes c
  rw [e] at i1 i2
  dsimp only at i1 i2
  rw [one_mul] at i2
  have c1 : ¬ x.1 ≤ 0 := by have := c.1; omega
  have c2 : ¬ x.2 < 0 := by have := c.2; omega
  repeat (first | apply Z1 | apply Z2 | apply Z3 | apply Z4 | apply Z5 rfl | apply Z6 | apply Z7 | apply Z8 | apply Z9 | apply ZA | apply ZB | apply ZC | ((first | apply ZD (by decide) | apply ZN (by decide)); (simp (maxSteps := 9999999) only [go_sem, r1, r2, r3, r4, c1, c2]; rfl)) | (refine ZE ?_ ?_; · simp only [go_sem]) | (refine ZF ?_ ?_; · simp only [go_sem]))
  refine end_nil ⟨rfl, rfl, rfl, by rw [i1, i2], ?_, ?_, ?_, ?_⟩
  ·simp only [go_sem, r1]
  ·simp only [go_sem, r2]
  ·simp only [go_sem, r3]
  ·simp only [go_sem, r4]
 ·have m1 := fun h => mulR35 hx (show Bd 1 ((0 : Int), (-1 : Int)) by decide) (by decide) h
  have m2 := fun h => mulR35 hu (show Bd 1 ((0 : Int), (1 : Int)) by decide) (by decide) h
  dsimp only at m1 m2
  obtain ⟨t1, t2⟩ := isF_turn hx0 c
  have ts := turns_step hx0 c
  have fin : ∀ ρ' : Reg, ρ' 1 = .pointer (some ⟨H.length, 0, none⟩) → ρ' 2 = .pointer (some ⟨H.length + 1, 0, none⟩) → ρ' 3 = .pointer (some ⟨H.length + 2, 0, none⟩) → ρ' 4 = .pointer (some ⟨H.length + 3, 0, none⟩) →
    ∃ k', k' < k ∧ ∃ x' u' : Int × Int, turnsN x' = k' ∧ x' ≠ (0, 0) ∧ Bd 1000000000 x' ∧ Bd 1 u' ∧ (firP x0).1 = (firP x').1 ∧ (firP x0).2 = mulP (firP x').2 u' ∧ ρ' 1 = .pointer (some ⟨H.length, 0, none⟩) ∧ ρ' 2 = .pointer (some ⟨H.length + 1, 0, none⟩) ∧ ρ' 3 = .pointer (some ⟨H.length + 2, 0, none⟩) ∧ ρ' 4 = .pointer (some ⟨H.length + 3, 0, none⟩) ∧ H ++ [bx (mulP x (0, -1)), bz, bz, bx (mulP u (0, 1))] = H ++ [bx x', bz, bz, bx u'] ∧ ([] : List Nat) = [] ∧ ([] : List Nat) = [] :=
   fun ρ' a b c d => ⟨turnsN (mulP x (0, -1)), by omega, mulP x (0, -1), mulP u (0, 1), rfl, turn_ne hx0, turn_bd hx, turn_bd' hu, by rw [i1, t1], by rw [i2, t2, mul_turn], a, b, c, d, rfl, rfl, rfl⟩
  by_cases c1 : x.1 ≤ 0
  ·repeat (first | apply Z1 | apply Z2 | apply Z3 | apply Z4 | apply Z5 rfl | apply Z6 | apply Z7 | apply Z8 | apply Z9 | apply ZA | apply ZB | apply ZC | ((first | apply ZD (by decide) | apply ZN (by decide)); (simp (maxSteps := 9999999) only [go_sem, r1, r2, r3, r4, c1, m1, m2]; rfl)) | (refine ZE ?_ ?_; · simp only [go_sem]) | (refine ZF ?_ ?_; · simp only [go_sem]))
   refine end_nil (fin _ ?_ ?_ ?_ ?_)
   ·simp only [go_sem, r1]
   ·simp only [go_sem, r2]
   ·simp only [go_sem, r3]
   ·simp only [go_sem, r4]
  ·have c2 : x.2 < 0 := by
    by_cases e : x.2 < 0
    ·exact e
    ·exact (c ⟨by omega, by omega⟩).elim
   repeat (first | apply Z1 | apply Z2 | apply Z3 | apply Z4 | apply Z5 rfl | apply Z6 | apply Z7 | apply Z8 | apply Z9 | apply ZA | apply ZB | apply ZC | ((first | apply ZD (by decide) | apply ZN (by decide)); (simp (maxSteps := 9999999) only [go_sem, r1, r2, r3, r4, c1, c2, m1, m2]; rfl)) | (refine ZE ?_ ?_; · simp only [go_sem]) | (refine ZF ?_ ?_; · simp only [go_sem]))
   refine end_nil (fin _ ?_ ?_ ?_ ?_)
   ·simp only [go_sem, r1]
   ·simp only [go_sem, r2]
   ·simp only [go_sem, r3]
   ·simp only [go_sem, r4]
theorem eqZ (p : Int × Int) : eqS (.agg [.int, .int]) (.agg #[.int .i64 p.1, .int .i64 p.2]) (.agg #[.int .i64 0, .int .i64 0]) = some (decide (p = (0, 0))) := eqP p (0, 0)
attribute [go_sem ↓ high] eqZ
theorem firstR43 {x : Int × Int} (hx : Bd 1000000000 x) (h : SHeap) : M.call 43 [agV x] h = some (.tuple #[agV (firP x).1, agV (firP x).2], h, []) := by
 refine call_run sf43 rfl rfl rfl ?_
 unfold sf43
 by_cases c : x = (0, 0)
 ·subst c
  rw [firP_0]
  repeat (first | apply Z1 | apply Z2 | apply Z3 | apply Z4 | apply Z5 rfl | apply Z6 | apply Z7 | apply Z8 | apply Z9 | apply ZA | apply ZB | apply ZC | ((first | apply ZD (by decide) | apply ZN (by decide)); (simp (maxSteps := 9999999) only [go_sem, argR]; rfl)) | (refine ZE ?_ ?_; · simp only [go_sem]) | (refine ZF ?_ ?_; · simp only [go_sem]))
  exact end_nil (q_free [agV (0, 0), agV (1, 0)] (by simp only [go_sem]) rfl rfl rfl (fun _ => rfl) (take_app _ _) rfl)
 ·have e : (x = (0, 0)) = False := eq_false c
  repeat (first | apply Z1 | apply Z2 | apply Z3 | apply Z4 | apply Z5 rfl | apply Z6 | apply Z7 | apply Z8 | apply Z9 | apply ZA | apply ZB | apply ZC | ((first | apply ZD (by decide) | apply ZN (by decide)); (simp (maxSteps := 9999999) only [go_sem, argR, e]; rfl)) | (refine ZE ?_ ?_; · simp only [go_sem]) | (refine ZF ?_ ?_; · simp only [go_sem]))
  refine run_loop (firstR_loop (x0 := x) _ h _ _ _ _ _ ⟨x, (1, 0), rfl, c, hx, by decide, rfl, by rw [mul_one], ?_, ?_, ?_, ?_, rfl, rfl, rfl⟩) ?_
  ·simp only [go_sem]
  ·simp only [go_sem]
  ·simp only [go_sem]
  ·simp only [go_sem]
  rintro ex ρ' ms' h1 d1 ⟨rfl, rfl, rfl, rfl, k1, k2, k3, k4⟩
  repeat (first | apply Z1 | apply Z2 | apply Z3 | apply Z4 | apply Z5 rfl | apply Z6 | apply Z7 | apply Z8 | apply Z9 | apply ZA | apply ZB | apply ZC | ((first | apply ZD (by decide) | apply ZN (by decide)); (simp (maxSteps := 9999999) only [go_sem, k1, k2, k3, k4]; rfl)) | (refine ZE ?_ ?_; · simp only [go_sem]) | (refine ZF ?_ ?_; · simp only [go_sem]))
  exact end_nil (q_free [agV (firP x).1, agV (firP x).2] (by simp only [go_sem, k2, k3]) rfl rfl rfl (fun _ => rfl) (take_app _ _) rfl)
def divP (x y : Int × Int) : Bool := if x = (0, 0) then decide (y = (0, 0)) else decide (restP y x = (0, 0))
theorem divides69 {x y : Int × Int} {X Y : Int} (hx : Bd X x) (hy : Bd Y y) (hXY : Y * X ≤ 1125899906842624) (hY : Y ≤ 1125899906842624) (hX : X * X ≤ 1125899906842624) (h : SHeap) :
  M.call 69 [agV x, agV y] h = some (.bool (divP x y), h, []) := by
 refine call_run sf69 rfl rfl rfl ?_
 unfold sf69
 by_cases c : x = (0, 0)
 ·have ex : (x = (0, 0)) = True := eq_true c
  have : divP x y = decide (y = (0, 0)) := by unfold divP; rw [if_pos c]
  rw [this]
  repeat (first | apply Z1 | apply Z2 | apply Z3 | apply Z4 | apply Z5 rfl | apply Z6 | apply Z7 | apply Z8 | apply Z9 | apply ZA | apply ZB | apply ZC | ((first | apply ZD (by decide) | apply ZN (by decide)); (simp (maxSteps := 9999999) only [go_sem, argR, ex]; rfl)) | (refine ZE ?_ ?_; · simp only [go_sem]) | (refine ZF ?_ ?_; · simp only [go_sem]))
  exact end_nil (q_ret1 _ (by simp only [go_sem]) rfl (take_app _ _))
 ·have ex : (x = (0, 0)) = False := eq_false c
  have : divP x y = decide (restP y x = (0, 0)) := by unfold divP; rw [if_neg c]
  rw [this]
  have c60 := fun h => quo60 hy hx hXY hY hX c h
  repeat (first | apply Z1 | apply Z2 | apply Z3 | apply Z4 | apply Z5 rfl | apply Z6 | apply Z7 | apply Z8 | apply Z9 | apply ZA | apply ZB | apply ZC | ((first | apply ZD (by decide) | apply ZN (by decide)); (simp (maxSteps := 9999999) only [go_sem, argR, ex, c60]; rfl)) | (refine ZE ?_ ?_; · simp only [go_sem]) | (refine ZF ?_ ?_; · simp only [go_sem]))
  exact end_nil (q_ret1 _ (by simp only [go_sem]) rfl (take_app _ _))
theorem divides39 {x y : Int × Int} (hx : Bd 30000 x) (hy : Bd 30000 y) (h : SHeap) : M.call 39 [agV x, agV y] h = some (.tuple #[.bool (divP x y), .int .i64 0], h, []) := by
 have c64 := open2 x y h [bx x, bx y, bs x y] 2 rfl
 rw [if_pos ⟨hx, hy⟩] at c64
 have c69 := fun h => divides69 hx hy (by decide) (by decide) (by decide) h
 refine call_run sf39 rfl rfl rfl ?_
 unfold sf39
 repeat (first | apply Z1 | apply Z2 | apply Z3 | apply Z4 | apply Z5 rfl | apply Z6 | apply Z7 | apply Z8 | apply Z9 | apply ZA | apply ZB | apply ZC | ((first | apply ZD (by decide) | apply ZN (by decide)); (simp (maxSteps := 9999999) only [go_sem, argR, c64, c69]; rfl)) | (refine ZE ?_ ?_; · simp only [go_sem]) | (refine ZF ?_ ?_; · simp only [go_sem]))
 exact end_nil (q_free [.bool (divP x y), .int .i64 0] (by simp only [go_sem]) rfl rfl rfl (fun _ => rfl) (take_app _ _) rfl)
theorem rest56 {x y : Int × Int} {X Y : Int} (hx : Bd X x) (hy : Bd Y y) (hXY : X * Y ≤ 1125899906842624) (hX : X ≤ 1125899906842624) (hY : Y * Y ≤ 1125899906842624) (h0 : y ≠ (0, 0)) (h : SHeap) :
  M.call 56 [agV x, agV y] h = some (agV (restP x y), h, []) := by
 have c44 := fun h => quoR44 hx hy hXY hX hY h0 h
 refine call_run sf56 rfl rfl rfl ?_
 unfold sf56
 repeat (first | apply Z1 | apply Z2 | apply Z3 | apply Z4 | apply Z5 rfl | apply Z6 | apply Z7 | apply Z8 | apply Z9 | apply ZA | apply ZB | apply ZC | ((first | apply ZD (by decide) | apply ZN (by decide)); (simp (maxSteps := 9999999) only [go_sem, argR, c44]; rfl)) | (refine ZE ?_ ?_; · simp only [go_sem]) | (refine ZF ?_ ?_; · simp only [go_sem]))
 exact end_nil (q_free [agV (restP x y)] (by simp only [go_sem]) rfl rfl rfl (fun _ => rfl) (take_app _ _) rfl)
end
end Go.Proofs.YtdmfhdnpakgkpaaDoor.Sh
namespace Go.Proofs.YtdmfhdnpakgkpaaDoor.Sh
section
open Go
set_option maxRecDepth 100000
set_option maxHeartbeats 4000000
theorem wrapU {x : Int} (h1 : 0 ≤ x) (h2 : x ≤ 18446744073709551615) : IntKind.u64.wrap x = x := by
 have e1 : IntKind.u64.wrap x = x % 18446744073709551616 := by simp [IntKind.wrap, IntKind.signed, IntKind.bits]
 rw [e1]; omega
def tameP (x : Int × Int) (m : Int) : Int × Int := ((IntKind.u64.wrap x.1).tmod (2 * m + 1) - m, (IntKind.u64.wrap x.2).tmod (2 * m + 1) - m)
theorem tame_bd (x : Int × Int) {m : Int} (hm : 0 ≤ m) : Bd m (tameP x m) := by
 obtain ⟨a, b⟩ := u64_mod' x.1 (2 * m + 1) (by omega)
 obtain ⟨c, d⟩ := u64_mod' x.2 (2 * m + 1) (by omega)
 unfold tameP
 refine ⟨?_, ?_, ?_, ?_⟩ <;> dsimp only <;> omega
theorem tame29 (x : Int × Int) {m : Int} (h0 : 0 ≤ m) (h1 : m ≤ 1000000000) (h : SHeap) : M.call 29 [agV x, .int .i64 m] h = some (agV (tameP x m), h, []) := by
 obtain ⟨a, b⟩ := u64_mod' x.1 (2 * m + 1) (by omega)
 obtain ⟨c, d⟩ := u64_mod' x.2 (2 * m + 1) (by omega)
 have w1 : IntKind.i64.wrap (2 * m) = 2 * m := wrap64 (by omega) (by omega)
 have w2 : IntKind.i64.wrap (2 * m + 1) = 2 * m + 1 := wrap64 (by omega) (by omega)
 have w3 : IntKind.u64.wrap (2 * m + 1) = 2 * m + 1 := wrapU (by omega) (by omega)
 have z : ¬ (2 * m + 1 = 0) := by omega
 have e1 : IntKind.i64.wrap ((IntKind.u64.wrap x.1).tmod (2 * m + 1)) = (IntKind.u64.wrap x.1).tmod (2 * m + 1) := wrap64 (by omega) (by omega)
 have e2 : IntKind.i64.wrap ((IntKind.u64.wrap x.2).tmod (2 * m + 1)) = (IntKind.u64.wrap x.2).tmod (2 * m + 1) := wrap64 (by omega) (by omega)
 have e3 : IntKind.i64.wrap ((IntKind.u64.wrap x.1).tmod (2 * m + 1) - m) = (tameP x m).1 := wrap64 (by omega) (by omega)
 have e4 : IntKind.i64.wrap ((IntKind.u64.wrap x.2).tmod (2 * m + 1) - m) = (tameP x m).2 := wrap64 (by omega) (by omega)
 refine call_run sf29 rfl rfl rfl ?_
 unfold sf29
 repeat (first | apply Z1 | apply Z2 | apply Z3 | apply Z4 | apply Z5 rfl | apply Z6 | apply Z7 | apply Z8 | apply Z9 | apply ZA | apply ZB | apply ZC | ((first | apply ZD (by decide) | apply ZN (by decide)); (simp (maxSteps := 9999999) only [go_sem, argR, w1, w2, w3, z, e1, e2, e3, e4]; rfl)) | (refine ZE ?_ ?_; · simp only [go_sem]) | (refine ZF ?_ ?_; · simp only [go_sem]))
 exact end_nil (q_free [agV (tameP x m)] (by simp only [go_sem]) rfl rfl rfl (fun _ => rfl) (take_app _ _) rfl)
theorem quo33 {x y : Int × Int} (hx : Bd 30000 x) (hy : Bd 30000 y) (h0 : y ≠ (0, 0)) (h : SHeap) : M.call 33 [agV x, agV y] h = some (.tuple #[agV (quoP x y), agV (restP x y), .int .i64 0], h, []) := by
 have c64 := open2 x y h [bx x, bx y, bz, bz, bs x y] 4 rfl
 rw [if_pos ⟨hx, hy⟩] at c64
 have c60 := fun h => quo60 hx hy (by decide) (by decide) (by decide) h0 h
 have e : (y = (0, 0)) = False := eq_false h0
 refine call_run sf33 rfl rfl rfl ?_
 unfold sf33
 repeat (first | apply Z1 | apply Z2 | apply Z3 | apply Z4 | apply Z5 rfl | apply Z6 | apply Z7 | apply Z8 | apply Z9 | apply ZA | apply ZB | apply ZC | ((first | apply ZD (by decide) | apply ZN (by decide)); (simp (maxSteps := 9999999) only [go_sem, argR, c64, e, c60]; rfl)) | (refine ZE ?_ ?_; · simp only [go_sem]) | (refine ZF ?_ ?_; · simp only [go_sem]))
 exact end_nil (q_free [agV (quoP x y), agV (restP x y), .int .i64 0] (by simp only [go_sem]) rfl rfl rfl (fun _ => rfl) (take_app _ _) rfl)
end
end Go.Proofs.YtdmfhdnpakgkpaaDoor.Sh
namespace Go.Proofs.YtdmfhdnpakgkpaaDoor.Sh
section
open Go
set_option maxRecDepth 100000
set_option maxHeartbeats 4000000
def powF (y : Int × Int) (n : Nat) (out b : Int × Int) : Int × Int :=
 if n = 0 then out else powF y (n / 2) (if n % 2 = 1 then restP (mulP out b) y else out) (restP (mulP b b) y)
termination_by n
decreasing_by omega
def powP (x : Int × Int) (n : Nat) (y : Int × Int) : Int × Int := powF y n (restP (1, 0) y) (restP x y)
abbrev b6 (p : Int × Int) : SO := .cells [.int .i64 p.1, .int .i64 p.2] 68 true 0 []
theorem pow_loop (cx : Cx) {y : Int × Int} (hy : Bd 30000 y) (h0 : y ≠ (0, 0)) (H : SHeap) (x q1 q2 z : Int × Int) : ∀ k ρ ms h' d', (∃ out b : Int × Int, Bd 30000 out ∧ Bd 30000 b ∧ k ≤ 1000000000 ∧ powF y k out b = z ∧ ρ 1 = .int .i64 k ∧ ρ 5 = .pointer (some ⟨H.length + 1, 0, none⟩) ∧ ρ 6 = .pointer (some ⟨H.length + 2, 0, none⟩) ∧ ρ 10 = .pointer (some ⟨H.length + 5, 0, none⟩) ∧ ρ 12 = .pointer (some ⟨H.length + 7, 0, none⟩) ∧ h' = H ++ [bx x, bx y, bz, bs x y, b6 q1, b6 out, b6 q2, b6 b] ∧ ms = [] ∧ d' = []) →
  LoopW M cx 7 sf40L0 ρ ms h' d' (fun ex ρ' ms' h' d' => ex = .exit 0 ∧ ms' = [] ∧ d' = [] ∧ ρ' 6 = .pointer (some ⟨H.length + 2, 0, none⟩) ∧ ρ' 10 = .pointer (some ⟨H.length + 5, 0, none⟩) ∧ ∃ b, h' = H ++ [bx x, bx y, bz, bs x y, b6 q1, b6 z, b6 q2, b6 b]) := by
 refine loop_run _ ?_
 rintro k ρ ms h' d' ⟨out, b, ho, hb, hk, hz, r1, r5, r6, r10, r12, rfl, rfl, rfl⟩
 have hn := nrm_pos h0
 unfold sf40L0
 by_cases c : k = 0
 ·have e1 : ¬ ((0 : Int) < k) := by omega
  repeat (first | apply Z1 | apply Z2 | apply Z3 | apply Z4 | apply Z5 rfl | apply Z6 | apply Z7 | apply Z8 | apply Z9 | apply ZA | apply ZB | apply ZC | ((first | apply ZD (by decide) | apply ZN (by decide)); (simp (maxSteps := 9999999) only [go_sem, r1, r5, r6, r10, r12, e1]; rfl)) | (refine ZE ?_ ?_; · simp only [go_sem]) | (refine ZF ?_ ?_; · simp only [go_sem]))
  refine end_nil ⟨rfl, rfl, rfl, ?_, ?_, b, ?_⟩
  ·simp only [go_sem, r6]
  ·simp only [go_sem, r10]
  ·rw [powF, if_pos c] at hz
   rw [hz]
 ·have e1 : ((0 : Int) < k) := by omega
  have m2 : ((k : Nat) : Int).tmod 2 = ((k % 2 : Nat) : Int) := tmod_nat k 2
  have d2 : IntKind.i64.wrap (((k : Nat) : Int).tdiv 2) = ((k / 2 : Nat) : Int) := by
   rw [Int.tdiv_eq_ediv_of_nonneg (by omega), wrap64 (by omega) (by omega)]; rfl
  have c65 := fun h => times65 ho hb (by decide) h
  have c60 := fun h => quo60 (mulP_bd ho hb) hy (by decide) (by decide) (by decide) h0 h
  have c65' := fun h => times65 hb hb (by decide) h
  have c60' := fun h => quo60 (mulP_bd hb hb) hy (by decide) (by decide) (by decide) h0 h
  rw [powF, if_neg c] at hz
  have bb := rest_bd (x := mulP b b) hn hy
  by_cases p : k % 2 = 1
  ·rw [if_pos p] at hz
   have e2 : ((k % 2 : Nat) : Int) = 1 := by omega
   repeat (first | apply Z1 | apply Z2 | apply Z3 | apply Z4 | apply Z5 rfl | apply Z6 | apply Z7 | apply Z8 | apply Z9 | apply ZA | apply ZB | apply ZC | ((first | apply ZD (by decide) | apply ZN (by decide)); (simp (maxSteps := 9999999) only [go_sem, r1, r5, r6, r10, r12, e1, m2, e2, d2, c65, c60, c65', c60']; rfl)) | (refine ZE ?_ ?_; · simp only [go_sem]) | (refine ZF ?_ ?_; · simp only [go_sem]))
   refine end_nil ⟨k / 2, by omega, restP (mulP out b) y, restP (mulP b b) y, rest_bd hn hy, bb, by omega, hz, ?_, ?_, ?_, ?_, ?_, rfl, rfl, rfl⟩
   ·simp only [go_sem, d2]
   ·simp only [go_sem, r5]
   ·simp only [go_sem, r6]
   ·simp only [go_sem, r10]
   ·simp only [go_sem, r12]
  ·rw [if_neg p] at hz
   have e2 : ¬ ((k % 2 : Nat) : Int) = 1 := by omega
   repeat (first | apply Z1 | apply Z2 | apply Z3 | apply Z4 | apply Z5 rfl | apply Z6 | apply Z7 | apply Z8 | apply Z9 | apply ZA | apply ZB | apply ZC | ((first | apply ZD (by decide) | apply ZN (by decide)); (simp (maxSteps := 9999999) only [go_sem, r1, r5, r6, r10, r12, e1, m2, e2, d2, c65, c60, c65', c60']; rfl)) | (refine ZE ?_ ?_; · simp only [go_sem]) | (refine ZF ?_ ?_; · simp only [go_sem]))
   refine end_nil ⟨k / 2, by omega, out, restP (mulP b b) y, ho, bb, by omega, hz, ?_, ?_, ?_, ?_, ?_, rfl, rfl, rfl⟩
   ·simp only [go_sem, d2]
   ·simp only [go_sem, r5]
   ·simp only [go_sem, r6]
   ·simp only [go_sem, r10]
   ·simp only [go_sem, r12]
theorem power40 {x y : Int × Int} {n : Nat} (hx : Bd 30000 x) (hy : Bd 30000 y) (h0 : y ≠ (0, 0)) (hn : n ≤ 1000000000) (h : SHeap) : M.call 40 [agV x, .int .i64 n, agV y] h = some (.tuple #[agV (powP x n y), .int .i64 0], h, []) := by
 have hny := nrm_pos h0
 have c64 := open2 x y h [bx x, bx y, bz, bs x y] 3 rfl
 rw [if_pos ⟨hx, hy⟩] at c64
 have e : (y = (0, 0)) = False := eq_false h0
 have e1 : ¬ ((n : Int) < 0) := by omega
 have e2 : ¬ ((1000000000 : Int) < n) := by omega
 have c60 := fun h => quo60 hx hy (by decide) (by decide) (by decide) h0 h
 have c60' := fun h => quo60 (show Bd 30000 ((1 : Int), (0 : Int)) by decide) hy (by decide) (by decide) (by decide) h0 h
 refine call_run sf40 rfl rfl rfl ?_
 unfold sf40
 repeat (first | apply Z1 | apply Z2 | apply Z3 | apply Z4 | apply Z5 rfl | apply Z6 | apply Z7 | apply Z8 | apply Z9 | apply ZA | apply ZB | apply ZC | ((first | apply ZD (by decide) | apply ZN (by decide)); (simp (maxSteps := 9999999) only [go_sem, argR, c64, e, e1, e2, c60, c60']; rfl)) | (refine ZE ?_ ?_; · simp only [go_sem]) | (refine ZF ?_ ?_; · simp only [go_sem]))
 refine run_loop (pow_loop _ hy h0 h x (quoP (1, 0) y) (quoP x y) (powP x n y) n _ _ _ _ ⟨restP (1, 0) y, restP x y, rest_bd hny hy, rest_bd hny hy, hn, rfl, ?_, ?_, ?_, ?_, ?_, rfl, rfl, rfl⟩) ?_
 ·simp only [go_sem, argR]
 ·simp only [go_sem]
 ·simp only [go_sem]
 ·simp only [go_sem]
 ·simp only [go_sem]
 rintro ex ρ' ms' h1 d1 ⟨rfl, rfl, rfl, k6, k10, b, rfl⟩
 repeat (first | apply Z1 | apply Z2 | apply Z3 | apply Z4 | apply Z5 rfl | apply Z6 | apply Z7 | apply Z8 | apply Z9 | apply ZA | apply ZB | apply ZC | ((first | apply ZD (by decide) | apply ZN (by decide)); (simp (maxSteps := 9999999) only [go_sem, k6, k10]; rfl)) | (refine ZE ?_ ?_; · simp only [go_sem]) | (refine ZF ?_ ?_; · simp only [go_sem]))
 exact end_nil (q_free [agV (powP x n y), .int .i64 0] (by simp only [go_sem, k6]) rfl rfl rfl (fun _ => rfl) (take_app _ _) rfl)
end
end Go.Proofs.YtdmfhdnpakgkpaaDoor.Sh
namespace Go.Proofs.YtdmfhdnpakgkpaaDoor.Sh
section
open Go
set_option maxRecDepth 100000
set_option maxHeartbeats 1000000
theorem mul_comm' (p q : Int × Int) : mulP p q = mulP q p := by unfold mulP; refine Prod.ext ?_ ?_ <;> dsimp only <;> grind
theorem mul_assoc' (p q r : Int × Int) : mulP (mulP p q) r = mulP p (mulP q r) := by unfold mulP; refine Prod.ext ?_ ?_ <;> dsimp only <;> grind
theorem mul_zero' (p : Int × Int) : mulP p (0, 0) = (0, 0) := by unfold mulP; refine Prod.ext ?_ ?_ <;> dsimp only <;> grind
theorem zero_mul' (p : Int × Int) : mulP (0, 0) p = (0, 0) := by unfold mulP; refine Prod.ext ?_ ?_ <;> dsimp only <;> grind
theorem nrm_conj_mul (p : Int × Int) : mulP p (conjP p) = (nrm p, 0) := by unfold mulP conjP nrm; refine Prod.ext ?_ ?_ <;> dsimp only <;> grind
theorem conj_conj (p : Int × Int) : conjP (conjP p) = p := by unfold conjP; refine Prod.ext ?_ ?_ <;> dsimp only <;> omega
theorem nrm_0 : nrm (0, 0) = 0 := by decide
theorem nrm_nonneg (p : Int × Int) : 0 ≤ nrm p := by
 have := sqn p.1
 have := sqn p.2
 unfold nrm; omega
theorem mul_ne {p q : Int × Int} (hp : p ≠ (0, 0)) (hq : q ≠ (0, 0)) : mulP p q ≠ (0, 0) := by
 intro e
 have h := nrm_mul p q
 rw [e, nrm_0] at h
 have a := nrm_pos hp
 have b := nrm_pos hq
 have := Int.mul_le_mul a b (by omega) (by omega)
 omega
def dv (p q : Int × Int) : Prop := ∃ k, q = mulP k p
theorem dv_refl (p : Int × Int) : dv p p := ⟨(1, 0), by rw [one_mul]⟩
theorem dv_zero (p : Int × Int) : dv p (0, 0) := ⟨(0, 0), by rw [zero_mul']⟩
theorem dv_trans {p q r : Int × Int} (h : dv p q) (k : dv q r) : dv p r := by
 obtain ⟨a, rfl⟩ := h
 obtain ⟨b, rfl⟩ := k
 exact ⟨mulP b a, by rw [mul_assoc']⟩
theorem dv_mul {p q : Int × Int} (h : dv p q) (r : Int × Int) : dv p (mulP r q) := by
 obtain ⟨a, rfl⟩ := h
 exact ⟨mulP r a, by rw [mul_assoc']⟩
theorem dv_add {p q r : Int × Int} (h : dv p q) (k : dv p r) : dv p (addP q r) := by
 obtain ⟨a, rfl⟩ := h
 obtain ⟨b, rfl⟩ := k
 exact ⟨addP a b, by unfold addP mulP; refine Prod.ext ?_ ?_ <;> dsimp only <;> grind⟩
theorem dv_sub {p q r : Int × Int} (h : dv p q) (k : dv p r) : dv p (subP q r) := by
 obtain ⟨a, rfl⟩ := h
 obtain ⟨b, rfl⟩ := k
 exact ⟨subP a b, by unfold subP mulP; refine Prod.ext ?_ ?_ <;> dsimp only <;> grind⟩
theorem dv_nrm {p q : Int × Int} (h : dv p q) (hq : q ≠ (0, 0)) : nrm p ≤ nrm q := by
 obtain ⟨k, rfl⟩ := h
 rw [nrm_mul]
 have hk : k ≠ (0, 0) := fun e => hq (by rw [e, zero_mul'])
 have a := nrm_pos hk
 have := Int.mul_le_mul_of_nonneg_right a (nrm_nonneg p)
 omega
theorem quo_rest (x y : Int × Int) : x = addP (mulP (quoP x y) y) (restP x y) := by
 unfold restP addP subP; refine Prod.ext ?_ ?_ <;> dsimp only <;> omega
theorem quo_exact {k y : Int × Int} (h : y ≠ (0, 0)) : quoP (mulP k y) y = k := by
 have hn := nrm_pos h
 have e : mulP (mulP k y) (conjP y) = (k.1 * nrm y, k.2 * nrm y) := by
  rw [mul_assoc', nrm_conj_mul]
  unfold mulP; refine Prod.ext ?_ ?_ <;> dsimp only <;> grind
 have key : ∀ z n : Int, 1 ≤ n → (2 * (z * n) + n) / (2 * n) = z := by
  intro z n hn
  rw [Int.ediv_eq_iff_of_pos (by omega)]
  have : z * (2 * n) = 2 * (z * n) := by grind
  omega
 unfold quoP
 rw [e]
 dsimp only
 rw [key _ _ hn, key _ _ hn]
theorem rest_exact {x y : Int × Int} (h : y ≠ (0, 0)) (hd : dv y x) : restP x y = (0, 0) := by
 obtain ⟨k, rfl⟩ := hd
 unfold restP
 rw [quo_exact h]
 unfold subP; refine Prod.ext ?_ ?_ <;> dsimp only <;> omega
theorem rest_zero {x y : Int × Int} (h : restP x y = (0, 0)) : dv y x := by
 refine ⟨quoP x y, ?_⟩
 have := quo_rest x y
 rw [h] at this
 rw [← show addP (mulP (quoP x y) y) (0, 0) = mulP (quoP x y) y by unfold addP; refine Prod.ext ?_ ?_ <;> dsimp only <;> omega]
 exact this
theorem rest_shift {x y : Int × Int} (k : Int × Int) (h : y ≠ (0, 0)) : restP (addP x (mulP k y)) y = restP x y := by
 have hn := nrm_pos h
 have e : mulP (addP x (mulP k y)) (conjP y) = ((mulP x (conjP y)).1 + k.1 * nrm y, (mulP x (conjP y)).2 + k.2 * nrm y) := by
  unfold addP mulP conjP nrm; refine Prod.ext ?_ ?_ <;> dsimp only <;> grind
 have key : ∀ t z n : Int, 1 ≤ n → (2 * (t + z * n) + n) / (2 * n) = (2 * t + n) / (2 * n) + z := by
  intro t z n hn
  have : 2 * (t + z * n) + n = (2 * t + n) + z * (2 * n) := by grind
  rw [this, Int.add_mul_ediv_right _ _ (by omega)]
 have q : quoP (addP x (mulP k y)) y = addP (quoP x y) k := by
  unfold quoP
  rw [e]
  dsimp only
  rw [key _ _ _ hn, key _ _ _ hn]
  rfl
 unfold restP
 rw [q]
 unfold subP addP mulP; refine Prod.ext ?_ ?_ <;> dsimp only <;> grind
theorem rest_rest (x : Int × Int) {y : Int × Int} (h : y ≠ (0, 0)) : restP (restP x y) y = restP x y := by
 have := rest_shift (x := restP x y) (quoP x y) h
 have e : addP (restP x y) (mulP (quoP x y) y) = x := by unfold restP addP subP; refine Prod.ext ?_ ?_ <;> dsimp only <;> omega
 rw [e] at this
 exact this.symm
def eu (x y : Int × Int) : Int × Int := if h : y = (0, 0) then x else eu y (restP x y)
termination_by (nrm y).toNat
decreasing_by
 have a := nrm_pos h
 have b := rest_nrm (x := x) a
 have c := nrm_nonneg (restP x y)
 omega
theorem eu_0 (x : Int × Int) : eu x (0, 0) = x := by rw [eu, dif_pos rfl]
theorem eu_s {x y : Int × Int} (h : y ≠ (0, 0)) : eu x y = eu y (restP x y) := by rw [eu, dif_neg h]
def gcdP (x y : Int × Int) : Int × Int := (firP (eu x y)).1
theorem nrm_split (p q : Int × Int) {t : Int} (ht : 0 ≤ t) : t * nrm (subP p q) ≤ (1 + t) * (t * nrm p + nrm q) := by
 have h := nrm_nonneg (t * p.1 + q.1, t * p.2 + q.2)
 have e : (1 + t) * (t * nrm p + nrm q) - t * nrm (subP p q) = nrm (t * p.1 + q.1, t * p.2 + q.2) := by
  unfold nrm subP; dsimp only; grind
 omega
end
end Go.Proofs.YtdmfhdnpakgkpaaDoor.Sh
namespace Go.Proofs.YtdmfhdnpakgkpaaDoor.Sh
section
open Go
set_option maxRecDepth 100000
set_option maxHeartbeats 1000000
structure BZ (a b r s c d : Int × Int) : Prop where
 one : ∃ e, r = addP (mulP c a) (mulP e b)
 two : ∃ g, s = addP (mulP d a) (mulP g b)
 det : subP (mulP c s) (mulP d r) = b ∨ subP (mulP c s) (mulP d r) = mulP (-1, 0) b
 bc : nrm c ≤ 4 * nrm b
 bd : nrm d * nrm r ≤ 4 * nrm b
 half : d = (0, 0) ∨ 2 * nrm s ≤ nrm r
 div : ∀ t, dv t r → dv t s → dv t a ∧ dv t b
 last : eu r s = eu a b
 bdd : Bd 30000 r ∧ Bd 30000 s
theorem BZ.start {a b : Int × Int} (ha : Bd 30000 a) (hb : Bd 30000 b) (h0 : b ≠ (0, 0)) : BZ a b a b (1, 0) (0, 0) := by
 have hn := nrm_pos h0
 have n1 : nrm (1, 0) = 1 := by decide
 refine ⟨⟨(0, 0), ?_⟩, ⟨(1, 0), ?_⟩, .inl ?_, by omega, by rw [nrm_0]; omega, .inl rfl, fun t h k => ⟨h, k⟩, rfl, ha, hb⟩
 ·rw [one_mul, zero_mul']; unfold addP; refine Prod.ext ?_ ?_ <;> dsimp only <;> omega
 ·rw [one_mul, zero_mul']; unfold addP; refine Prod.ext ?_ ?_ <;> dsimp only <;> omega
 ·rw [one_mul, zero_mul']; unfold subP; refine Prod.ext ?_ ?_ <;> dsimp only <;> omega
theorem nrm_two (p q : Int × Int) : nrm (addP p q) ≤ 2 * nrm p + 2 * nrm q := by
 have h := nrm_nonneg (subP p q)
 have e : 2 * nrm p + 2 * nrm q - nrm (addP p q) = nrm (subP p q) := by
  unfold nrm subP addP; dsimp only; grind
 omega
theorem nrm_neg (p : Int × Int) : nrm (mulP (-1, 0) p) = nrm p := by
 rw [nrm_mul]
 have : nrm (-1, 0) = 1 := by decide
 rw [this, Int.one_mul]
theorem BZ.step {a b r s c d : Int × Int} (h : BZ a b r s c d) (hb : b ≠ (0, 0)) (hs : s ≠ (0, 0)) : BZ a b s (restP r s) d (subP c (mulP (quoP r s) d)) := by
  obtain ⟨⟨e, he⟩, ⟨g, hg⟩, det, bc, bd, half, div, last, br, bs⟩ := h
  have hn := nrm_pos hs
  have hnb := nrm_pos hb
  have rn := rest_nrm (x := r) hn
  have hqr := quo_rest r s
  have hrr : restP r s = subP r (mulP (quoP r s) s) := rfl
  refine ⟨⟨g, hg⟩, ⟨subP e (mulP (quoP r s) g), ?_⟩, ?_, ?_, ?_, .inr ?_, ?_, ?_, bs, rest_bd hn bs⟩
  · rw [hrr]
    generalize quoP r s = q at *
    rw [he, hg]
    unfold subP addP mulP; refine Prod.ext ?_ ?_ <;> dsimp only <;> grind
  · have e1 : subP (mulP d (restP r s)) (mulP (subP c (mulP (quoP r s) d)) s) = mulP (-1, 0) (subP (mulP c s) (mulP d r)) := by
      rw [hrr]
      generalize quoP r s = q at *
      unfold subP mulP; refine Prod.ext ?_ ?_ <;> dsimp only <;> grind
    rw [e1]
    rcases det with k | k
    · right; rw [k]
    · left; rw [k]; unfold mulP; refine Prod.ext ?_ ?_ <;> dsimp only <;> omega
  ·
    by_cases z : nrm r = 0
    · rcases half with k | k
      · rw [k, nrm_0]; omega
      · omega
    · have := Int.mul_le_mul_of_nonneg_left (show 1 ≤ nrm r by have := nrm_nonneg r; omega) (nrm_nonneg d)
      omega
  ·
    have e1 : mulP (subP c (mulP (quoP r s) d)) s = addP (subP (mulP c s) (mulP d r)) (mulP d (restP r s)) := by
      rw [hrr]
      generalize quoP r s = q at *
      unfold subP addP mulP; refine Prod.ext ?_ ?_ <;> dsimp only <;> grind
    have e2 := nrm_mul (subP c (mulP (quoP r s) d)) s
    rw [← e2, e1]
    have e3 := nrm_two (subP (mulP c s) (mulP d r)) (mulP d (restP r s))
    have e4 : nrm (subP (mulP c s) (mulP d r)) = nrm b := by
      rcases det with k | k
      · rw [k]
      · rw [k, nrm_neg]
    have e5 := nrm_mul d (restP r s)
    have e6 : 4 * (nrm d * nrm (restP r s)) ≤ nrm d * nrm r := by
      rcases half with k | k
      · rw [k, nrm_0]; omega
      · have := Int.mul_le_mul_of_nonneg_left (show 4 * nrm (restP r s) ≤ nrm r by omega) (nrm_nonneg d)
        have e7 : nrm d * (4 * nrm (restP r s)) = 4 * (nrm d * nrm (restP r s)) := by grind
        omega
    omega
  · omega
  · intro t h1 h2
    refine div t ?_ h1
    rw [hqr]
    exact dv_add (dv_mul h1 _) h2
  · rw [← last, eu_s hs]
theorem BZ.small {a b r s c d : Int × Int} (h : BZ a b r s c d) (hb : Bd 30000 b) : Bd 90000 c := by
 have h1 := h.bc
 have h2 := nrm_le hb
 exact part_bd (by omega) (by omega)
structure BE (a b r c : Int × Int) : Prop where
 ne : r ≠ (0, 0)
 one : ∃ e, r = addP (mulP c a) (mulP e b)
 da : dv r a
 db : dv r b
 bc : nrm c ≤ 4 * nrm b
 last : r = eu a b
 bdd : Bd 30000 r
theorem BZ.fin {a b r c d : Int × Int} (h : BZ a b r (0, 0) c d) (hb : b ≠ (0, 0)) : BE a b r c := by
 obtain ⟨h1, h2, det, bc, bd, half, div, last, br, bs⟩ := h
 have hd := div r (dv_refl r) (dv_zero r)
 refine ⟨fun e => ?_, h1, hd.1, hd.2, bc, by rw [← last, eu_0], br⟩
 obtain ⟨k, hk⟩ := hd.2
 rw [e, mul_zero'] at hk
 exact hb hk
theorem fir_mul (r : Int × Int) : (firP r).1 = mulP r (firstU r) := rfl
theorem firU_nrm (p : Int × Int) : nrm (firstU p) = 1 := by
 unfold firstU
 split
 ·decide
 ·split
  ·decide
  ·split
   ·decide
   ·split
    ·decide
    ·decide
theorem firU_bd (p : Int × Int) : Bd 1 (firstU p) := part_bd (by decide) (by rw [firU_nrm]; decide)
theorem conj_one {u : Int × Int} (h : nrm u = 1) : mulP u (conjP u) = (1, 0) := by rw [nrm_conj_mul, h]
theorem fir_ne {r : Int × Int} (h : r ≠ (0, 0)) : (firP r).1 ≠ (0, 0) := by
 rw [fir_mul]
 exact mul_ne h (fun e => by have := firU_nrm r; rw [e] at this; exact absurd this (by decide))
theorem fir_nrm (r : Int × Int) : nrm (firP r).1 = nrm r := by rw [fir_mul, nrm_mul, firU_nrm, Int.mul_one]
theorem fir_dv {r q : Int × Int} (h : dv r q) : dv (firP r).1 q := by
 obtain ⟨k, rfl⟩ := h
 refine ⟨mulP k (conjP (firstU r)), ?_⟩
 have e : mulP (mulP k (conjP (firstU r))) (mulP r (firstU r)) = mulP (mulP k r) (mulP (firstU r) (conjP (firstU r))) := by
  generalize firstU r = u
  unfold mulP conjP; refine Prod.ext ?_ ?_ <;> dsimp only <;> grind
 rw [fir_mul, e, conj_one (firU_nrm r), mul_one]
theorem fir_isF {r : Int × Int} (h : r ≠ (0, 0)) : isF (firP r).1 := by
 rw [fir_mul]
 unfold firstU
 split
 ·rename_i k; rw [mul_one]; exact k
 ·split
  ·rename_i k; exact k
  ·split
   ·rename_i k; exact k
   ·split
    ·rename_i k; exact k
    ·rename_i k1 k2 k3 k4
     rcases first_ex h with k | k | k | k
     ·exact (k1 k).elim
     ·exact (k2 k).elim
     ·exact (k3 k).elim
     ·exact (k4 k).elim
end
end Go.Proofs.YtdmfhdnpakgkpaaDoor.Sh
namespace Go.Proofs.YtdmfhdnpakgkpaaDoor.Sh
section
open Go
set_option maxRecDepth 100000
set_option maxHeartbeats 1000000
section
variable {a b r c : Int × Int}
def cc1 (r c : Int × Int) : Int × Int := mulP c (firstU r)
def whl (b r : Int × Int) : Int × Int := quoP b (firP r).1
def cc2 (b r c : Int × Int) : Int × Int := restP (cc1 r c) (whl b r)
def cof (a b r c : Int × Int) : Int × Int := quoP (subP (firP r).1 (mulP (cc2 b r c) a)) b
theorem BE.whole (h : BE a b r c) (hb : b ≠ (0, 0)) : b = mulP (whl b r) (firP r).1 ∧ whl b r ≠ (0, 0) := by
 obtain ⟨k, hk⟩ := fir_dv h.db
 have hf := fir_ne h.ne
 have e : whl b r = k := by
  unfold whl
  rw [hk]
  exact quo_exact hf
 rw [e]
 exact ⟨hk, fun e => hb (by rw [hk, e, zero_mul'])⟩
theorem BE.made (h : BE a b r c) (hb : b ≠ (0, 0)) : (firP r).1 = addP (mulP (cc2 b r c) a) (mulP (cof a b r c) b) := by
 obtain ⟨e, he⟩ := h.one
 obtain ⟨hw, hw0⟩ := h.whole hb
 obtain ⟨a', ha⟩ := fir_dv h.da
 have hq := quo_rest (cc1 r c) (whl b r)
 have e1 : subP (firP r).1 (mulP (cc2 b r c) a) = mulP (addP (mulP e (firstU r)) (mulP (quoP (cc1 r c) (whl b r)) a')) b := by
  have e2 : (firP r).1 = addP (mulP (cc1 r c) a) (mulP (mulP e (firstU r)) b) := by
   rw [fir_mul]
   unfold cc1
   generalize firstU r = u
   rw [he]
   unfold addP mulP; refine Prod.ext ?_ ?_ <;> dsimp only <;> grind
  have e3 : mulP (whl b r) a = mulP a' b := by
   rw [ha]
   have : mulP (whl b r) (mulP a' (firP r).1) = mulP a' (mulP (whl b r) (firP r).1) := by
    unfold mulP; refine Prod.ext ?_ ?_ <;> dsimp only <;> grind
   rw [this, ← hw]
  have e4 : cc2 b r c = subP (cc1 r c) (mulP (quoP (cc1 r c) (whl b r)) (whl b r)) := rfl
  rw [e4]
  generalize quoP (cc1 r c) (whl b r) = k at *
  generalize whl b r = w at *
  generalize cc1 r c = z at *
  have e5 : subP (firP r).1 (mulP (subP z (mulP k w)) a) = addP (subP (firP r).1 (mulP z a)) (mulP k (mulP w a)) := by
   unfold subP addP mulP; refine Prod.ext ?_ ?_ <;> dsimp only <;> grind
  rw [e5, e3, e2]
  unfold subP addP mulP; refine Prod.ext ?_ ?_ <;> dsimp only <;> grind
 have e6 : cof a b r c = addP (mulP e (firstU r)) (mulP (quoP (cc1 r c) (whl b r)) a') := by
  unfold cof
  rw [e1]
  exact quo_exact hb
 rw [e6, ← e1]
 unfold subP addP; refine Prod.ext ?_ ?_ <;> dsimp only <;> omega
theorem BE.exact (h : BE a b r c) (hb : b ≠ (0, 0)) : subP (firP r).1 (mulP (cc2 b r c) a) = mulP (cof a b r c) b := by
 have := h.made hb
 have e : subP (addP (mulP (cc2 b r c) a) (mulP (cof a b r c) b)) (mulP (cc2 b r c) a) = mulP (cof a b r c) b := by
  unfold subP addP; refine Prod.ext ?_ ?_ <;> dsimp only <;> omega
 rw [← this] at e
 exact e
theorem BE.c1_bd (h : BE a b r c) (hb : Bd 30000 b) : Bd 90000 (cc1 r c) := by
 have h1 := h.bc
 have h2 := nrm_le hb
 refine part_bd (by omega) ?_
 unfold cc1
 rw [nrm_mul, firU_nrm]
 omega
theorem BE.w_bd (h : BE a b r c) (hb : Bd 30000 b) : Bd 30000 (whl b r) := quo_bd hb (nrm_pos (fir_ne h.ne))
theorem BE.c_nrm (h : BE a b r c) (hb0 : b ≠ (0, 0)) : 2 * nrm (cc2 b r c) ≤ nrm (whl b r) := rest_nrm (nrm_pos (h.whole hb0).2)
theorem BE.w_nrm (h : BE a b r c) (hb0 : b ≠ (0, 0)) : nrm b = nrm (whl b r) * nrm r := by
 have := (h.whole hb0).1
 have e := nrm_mul (whl b r) (firP r).1
 rw [← this, fir_nrm] at e
 exact e
theorem BE.c_bd (h : BE a b r c) (hb : Bd 30000 b) (hb0 : b ≠ (0, 0)) : Bd 30000 (cc2 b r c) := by
 have h1 := h.c_nrm hb0
 have h2 := h.w_nrm hb0
 have h3 := nrm_le hb
 have h4 := nrm_pos h.ne
 have h5 := Int.mul_le_mul_of_nonneg_left h4 (nrm_nonneg (whl b r))
 exact part_bd (by decide) (by omega)
theorem BE.o_bd (h : BE a b r c) (ha : Bd 30000 a) (hb : Bd 30000 b) (hb0 : b ≠ (0, 0)) : Bd 30000 (cof a b r c) := by
  have h1 := h.c_nrm hb0
  have h2 := h.w_nrm hb0
  have h3 := nrm_le ha
  have hF := nrm_pos h.ne
  have hB := nrm_pos hb0
  have hw := nrm_pos (h.whole hb0).2
  have hC := nrm_nonneg (cc2 b r c)
  have hA := nrm_nonneg a
  have ex := h.exact hb0
  have e1 : nrm (subP (firP r).1 (mulP (cc2 b r c) a)) = nrm (cof a b r c) * nrm b := by rw [ex, nrm_mul]
  have e2 : nrm (mulP (cc2 b r c) a) = nrm (cc2 b r c) * nrm a := nrm_mul _ _
  have s1 := nrm_split (firP r).1 (mulP (cc2 b r c) a) (t := 40000) (by decide)
  have s2 := nrm_split (firP r).1 (mulP (cc2 b r c) a) (t := 1) (by decide)
  rw [e1, e2, fir_nrm] at s1 s2
  have hO := nrm_nonneg (cof a b r c)
  refine part_bd (by decide) ?_
  generalize nrm (cof a b r c) = O at *
  generalize nrm (cc2 b r c) = C at *
  generalize nrm (whl b r) = W at *
  generalize nrm a = A at *
  generalize nrm r = F at *
  generalize nrm b = B at *
  have m1 : 2 * (C * A) ≤ W * 1800000000 := by
    have a1 := Int.mul_le_mul_of_nonneg_right h1 hA
    have a2 := Int.mul_le_mul_of_nonneg_left (show A ≤ 1800000000 by omega) (show 0 ≤ W by omega)
    have a3 : 2 * C * A = 2 * (C * A) := by grind
    omega
  by_cases f1 : F = 1
  · subst f1
    by_cases w1 : W = 1
    ·
      have c0 : C = 0 := by omega
      subst c0
      have : B = 1 := by omega
      subst this
      have z : (0 : Int) * A = 0 := by grind
      rw [z] at s2
      omega
    · have hB2 : 2 ≤ B := by omega
      have hWB : W = B := by omega
      subst hWB
      have k : 40000 * (O * W) ≤ 40001 * 40000 + 40001 * (C * A) := by omega
      have k2 : 2 * (40000 * (O * W)) ≤ 2 * 40001 * 40000 + 40001 * (W * 1800000000) := by omega
      by_cases o : O < 900060001
      · omega
      · exfalso
        have k3 := Int.mul_le_mul_of_nonneg_right (show (900060001 : Int) ≤ O by omega) (show 0 ≤ W by omega)
        omega
  · have f2 : 2 ≤ F := by omega
    have k : 1 * (O * B) ≤ 2 * (F + C * A) := by omega
    have k1 : O * B ≤ 2 * F + W * 1800000000 := by omega
    by_cases o : O < 900060001
    · omega
    · exfalso
      have k3 := Int.mul_le_mul_of_nonneg_right (show (900060001 : Int) ≤ O by omega) (show 0 ≤ B by omega)
      have k4 : 2 * W ≤ B := by
        have := Int.mul_le_mul_of_nonneg_left f2 (show 0 ≤ W by omega)
        omega
      have k5 : F ≤ B := by
        have := Int.mul_le_mul_of_nonneg_right hw (show 0 ≤ F by omega)
        omega
      omega
end
end
end Go.Proofs.YtdmfhdnpakgkpaaDoor.Sh
namespace Go.Proofs.YtdmfhdnpakgkpaaDoor.Sh
section
open Go
set_option maxRecDepth 100000
set_option maxHeartbeats 4000000
abbrev bn (p : Int × Int) : SO := .cells [.int .i64 p.1, .int .i64 p.2] 68 true 0 []
abbrev bnz : SO := .cells [.int .i64 0, .int .i64 0] 68 true 0 []
end
end Go.Proofs.YtdmfhdnpakgkpaaDoor.Sh
namespace Go.Proofs.YtdmfhdnpakgkpaaDoor.Sh
section
open Go
set_option maxRecDepth 100000
set_option maxHeartbeats 4000000
theorem bez_loop (cx : Cx) (H : SHeap) {a b : Int × Int} (hb0 : b ≠ (0, 0)) (hb : Bd 30000 b) : ∀ k ρ ms h' d', (∃ (r s c d : Int × Int) (g : SHeap), (nrm s).toNat = k ∧ BZ a b r s c d ∧ Bd 90000 d ∧ ρ 4 = .pointer (some ⟨H.length + 2, 0, none⟩) ∧ ρ 5 = .pointer (some ⟨H.length + 3, 0, none⟩) ∧ ρ 6 = .pointer (some ⟨H.length + 4, 0, none⟩) ∧ ρ 9 = .pointer (some ⟨H.length + 6, 0, none⟩) ∧ ρ 10 = .pointer (some ⟨H.length + 7, 0, none⟩) ∧
      ρ 13 = .pointer (some ⟨H.length + 8, 0, none⟩) ∧ ρ 14 = .pointer (some ⟨H.length + 9, 0, none⟩) ∧ ρ 15 = .pointer (some ⟨H.length + 10, 0, none⟩) ∧ ρ 16 = .pointer (some ⟨H.length + 11, 0, none⟩) ∧ h' = H ++ (bx a :: bx b :: bz :: bz :: bz :: bs a b :: bn a :: bn b :: bn r :: bn s :: bn c :: bn d :: g) ∧ ms = [] ∧ d' = []) →
    LoopW M cx 7 sf48L0 ρ ms h' d' (fun ex ρ' ms' h' d' => ex = .exit 0 ∧ ms' = [] ∧ d' = [] ∧ ρ' 4 = .pointer (some ⟨H.length + 2, 0, none⟩) ∧ ρ' 5 = .pointer (some ⟨H.length + 3, 0, none⟩) ∧ ρ' 6 = .pointer (some ⟨H.length + 4, 0, none⟩) ∧ ρ' 9 = .pointer (some ⟨H.length + 6, 0, none⟩) ∧ ρ' 10 = .pointer (some ⟨H.length + 7, 0, none⟩) ∧
      ρ' 13 = .pointer (some ⟨H.length + 8, 0, none⟩) ∧ ρ' 15 = .pointer (some ⟨H.length + 10, 0, none⟩) ∧ ∃ (r c d : Int × Int) (g : SHeap), BE a b r c ∧ h' = H ++ (bx a :: bx b :: bz :: bz :: bz :: bs a b :: bn a :: bn b :: bn r :: bnz :: bn c :: bn d :: g)) := by
  refine loop_run _ ?_
  rintro k ρ ms h' d' ⟨r, s, c, d, g, hk, B, bd, r4, r5, r6, r9, r10, r13, r14, r15, r16, rfl, rfl, rfl⟩
  unfold sf48L0
  by_cases z : s = (0, 0)
  · subst z
    repeat (first | apply Z1 | apply Z2 | apply Z3 | apply Z4 | apply Z5 rfl | apply Z6 | apply Z7 | apply Z8 | apply Z9 | apply ZA | apply ZB | apply ZC | ((first | apply ZD (by decide) | apply ZN (by decide)); (simp (maxSteps := 9999999) only [go_sem, r4, r5, r6, r9, r10, r13, r14, r15, r16]; rfl)) | (refine ZE ?_ ?_; · simp only [go_sem]) | (refine ZF ?_ ?_; · simp only [go_sem]))
    refine end_nil ⟨rfl, rfl, rfl, ?_, ?_, ?_, ?_, ?_, ?_, ?_, r, c, d, g, B.fin hb0, rfl⟩
    · simp only [go_sem, r4]
    · simp only [go_sem, r5]
    · simp only [go_sem, r6]
    · simp only [go_sem, r9]
    · simp only [go_sem, r10]
    · simp only [go_sem, r13]
    · simp only [go_sem, r15]
  · have z' : (s = (0, 0)) = False := eq_false z
    obtain ⟨br, bs⟩ := B.bdd
    have bc := B.small hb
    have c60 := fun h => quo60 br bs (by decide) (by decide) (by decide) z h
    have hn := nrm_pos z
    have bq := quo_bd br hn
    have c65 := fun h => times65 bq bd (by decide) h
    have c79 := fun h => minus79 bc (mulP_bd bq bd) (by decide) h
    have B' := B.step hb0 z
    have bd' : Bd 90000 (subP c (mulP (quoP r s) d)) := by
      have h1 := B'.bd
      have h2 := nrm_le hb
      have h3 := Int.mul_le_mul_of_nonneg_left hn (nrm_nonneg (subP c (mulP (quoP r s) d)))
      exact part_bd (by decide) (by omega)
    have rn := rest_nrm (x := r) hn
    have r0 := nrm_nonneg (restP r s)
    repeat (first | apply Z1 | apply Z2 | apply Z3 | apply Z4 | apply Z5 rfl | apply Z6 | apply Z7 | apply Z8 | apply Z9 | apply ZA | apply ZB | apply ZC | ((first | apply ZD (by decide) | apply ZN (by decide)); (simp (maxSteps := 9999999) only [go_sem, r4, r5, r6, r9, r10, r13, r14, r15, r16, z', c60, c65, c79]; rfl)) | (refine ZE ?_ ?_; · simp only [go_sem]) | (refine ZF ?_ ?_; · simp only [go_sem]))
    refine end_nil ⟨(nrm (restP r s)).toNat, by omega, s, restP r s, d, subP c (mulP (quoP r s) d), _, rfl, B', bd', ?_, ?_, ?_, ?_, ?_, ?_, ?_, ?_, ?_, rfl, rfl, rfl⟩
    · simp only [go_sem, r4]
    · simp only [go_sem, r5]
    · simp only [go_sem, r6]
    · simp only [go_sem, r9]
    · simp only [go_sem, r10]
    · simp only [go_sem, r13]
    · simp only [go_sem, r14]
    · simp only [go_sem, r15]
    · simp only [go_sem, r16]
structure BR (a b u v : Int × Int) : Prop where
 made : addP (mulP u a) (mulP v b) = gcdP a b
 bu : Bd 30000 u
 bv : Bd 30000 v
theorem BE.br {a b r c : Int × Int} (h : BE a b r c) (ha : Bd 30000 a) (hb : Bd 30000 b) (hb0 : b ≠ (0, 0)) : BR a b (cc2 b r c) (cof a b r c) :=
 ⟨by rw [← h.made hb0, h.last]; rfl, h.c_bd hb hb0, h.o_bd ha hb hb0⟩
theorem bezout48 {a b : Int × Int} (ha : Bd 30000 a) (hb : Bd 30000 b) (h0 : b ≠ (0, 0)) (h : SHeap) : ∃ u v, BR a b u v ∧ M.call 48 [agV a, agV b] h = some (.tuple #[agV (gcdP a b), agV u, agV v, .int .i64 0], h, []) := by
 have c64 := open2 a b h [bx a, bx b, bz, bz, bz, bs a b] 5 rfl
 rw [if_pos ⟨ha, hb⟩] at c64
 have z' : (b = (0, 0)) = False := eq_false h0
 have key : ∃ r, (∃ u v, BR a b u v ∧ r = (Value.tuple #[agV (gcdP a b), agV u, agV v, .int .i64 0], h, ([] : List Nat))) ∧ M.call 48 [agV a, agV b] h = some r := by
  refine call_ex (f := 48) _ sf48 rfl rfl rfl ?_
  unfold sf48
  repeat (first | apply Z1 | apply Z2 | apply Z3 | apply Z4 | apply Z5 rfl | apply Z6 | apply Z7 | apply Z8 | apply Z9 | apply ZA | apply ZB | apply ZC | ((first | apply ZD (by decide) | apply ZN (by decide)); (simp (maxSteps := 9999999) only [go_sem, argR, c64, z', Nat.add_assoc]; rfl)) | (refine ZE ?_ ?_; · simp only [go_sem]) | (refine ZF ?_ ?_; · simp only [go_sem]))
  refine run_loop (bez_loop _ h h0 hb _ _ _ _ _ ⟨a, b, (1, 0), (0, 0), [], rfl, BZ.start ha hb h0, by decide, ?_, ?_, ?_, ?_, ?_, ?_, ?_, ?_, ?_, rfl, rfl, rfl⟩) ?_
  ·simp only [go_sem]
  ·simp only [go_sem]
  ·simp only [go_sem]
  ·simp only [go_sem]
  ·simp only [go_sem]
  ·simp only [go_sem]
  ·simp only [go_sem]
  ·simp only [go_sem]
  ·simp only [go_sem]
  rintro ex ρ' ms' h1 d1 ⟨rfl, rfl, rfl, k4, k5, k6, k9, k10, k13, k15, r, c, d, g, B, rfl⟩
  have hr := nrm_pos B.ne
  have bfr : Bd 30000 (firP r).1 := by
   have e := fir_mul r
   have h1 := mulP_bd B.bdd (firU_bd r)
   unfold firP firstU
   dsimp only
   split
   ·rw [mul_one]; exact B.bdd
   ·split
    ·exact turn_bd' B.bdd
    ·split
     ·have := B.bdd; unfold Bd at *; rw [mul_m]; dsimp only; omega
     ·split
      ·exact turn_bd B.bdd
      ·rw [mul_one]; exact B.bdd
  have bfu : Bd 1 (firP r).2 := by
   have := firU_bd r
   unfold firP Bd conjP at *; dsimp only at *; omega
  have c73 := fun h => first73 (x := r) (B.bdd.mono (by decide)) h
  have c78 := fun h => turned78 bfu (by decide) h
  have ecj : conjP (firP r).2 = firstU r := conj_conj _
  rw [ecj] at c78
  have bc : Bd 90000 c := by
   have h1 := B.bc
   have h2 := nrm_le hb
   exact part_bd (by decide) (by omega)
  have c65 := fun h => times65 bc (firU_bd r) (by decide) h
  have e1 : mulP c (firstU r) = cc1 r c := rfl
  rw [e1] at c65
  have c60 := fun h => quo60 hb bfr (by decide) (by decide) (by decide) (fir_ne B.ne) h
  have e2 : quoP b (firP r).1 = whl b r := rfl
  rw [e2] at c60
  have c60' := fun h => quo60 (B.c1_bd hb) (B.w_bd hb) (by decide) (by decide) (by decide) (B.whole h0).2 h
  have e3 : restP (cc1 r c) (whl b r) = cc2 b r c := rfl
  rw [e3] at c60'
  have bc2 := B.c_bd hb h0
  have c65' := fun h => times65 bc2 ha (by decide) h
  have c79 := fun h => minus79 bfr (mulP_bd bc2 ha) (by decide) h
  have bsub : Bd 4000000000 (subP (firP r).1 (mulP (cc2 b r c) a)) := by
   have h1 := mulP_bd bc2 ha
   unfold Bd subP at *; dsimp only at *; omega
  have c60'' := fun h => quo60 bsub hb (by decide) (by decide) (by decide) h0 h
  have e4 : quoP (subP (firP r).1 (mulP (cc2 b r c) a)) b = cof a b r c := rfl
  rw [e4] at c60''
  repeat (first | apply Z1 | apply Z2 | apply Z3 | apply Z4 | apply Z5 rfl | apply Z6 | apply Z7 | apply Z8 | apply Z9 | apply ZA | apply ZB | apply ZC | ((first | apply ZD (by decide) | apply ZN (by decide)); (simp (maxSteps := 9999999) only [go_sem, k4, k5, k6, k9, k10, k13, k15, c73, c78, c65, c60, c60', c65', c79, c60'', Nat.add_assoc]; rfl)) | (refine ZE ?_ ?_; · simp only [go_sem]) | (refine ZF ?_ ?_; · simp only [go_sem]))
  refine end_nil ⟨_, ⟨cc2 b r c, cof a b r c, B.br ha hb h0, rfl⟩, ?_⟩
  have eg : gcdP a b = (firP r).1 := by unfold gcdP; rw [B.last]
  rw [eg]
  exact q_free [agV (firP r).1, agV (cc2 b r c), agV (cof a b r c), .int .i64 0] (by simp only [go_sem, k4, k5, k6]) rfl rfl rfl (fun _ => rfl) (take_app _ _) rfl
 obtain ⟨r, ⟨u, v, hbr, rfl⟩, e⟩ := key
 exact ⟨u, v, hbr, e⟩
end
end Go.Proofs.YtdmfhdnpakgkpaaDoor.Sh
namespace Go.Proofs.YtdmfhdnpakgkpaaDoor.Sh
section
open Go
set_option maxRecDepth 100000
set_option maxHeartbeats 4000000
theorem fir_bd {r : Int × Int} {A : Int} (h : Bd A r) : Bd A (firP r).1 := by
 unfold firP firstU
 dsimp only
 split
 ·rw [mul_one]; exact h
 ·split
  ·exact turn_bd' h
  ·split
   ·unfold Bd at *; rw [mul_m]; dsimp only; omega
   ·split
    ·exact turn_bd h
    ·rw [mul_one]; exact h
theorem bezout48_0 {a : Int × Int} (ha : Bd 30000 a) (h : SHeap) : ∃ u v, BR a (0, 0) u v ∧ M.call 48 [agV a, agV (0, 0)] h = some (.tuple #[agV (gcdP a (0, 0)), agV u, agV v, .int .i64 0], h, []) := by
 have c64 := open2 a (0, 0) h [bx a, bz, bz, bz, bz, bs a (0, 0)] 5 rfl
 rw [if_pos ⟨ha, by decide⟩] at c64
 have c73 := fun h => first73 (x := a) (ha.mono (by decide)) h
 have eg : gcdP a (0, 0) = (firP a).1 := by unfold gcdP; rw [eu_0]
 rw [eg]
 by_cases z : a = (0, 0)
 ·subst z
  have e0 : (firP (0, 0)).1 = (0, 0) := by decide
  refine ⟨(0, 0), (0, 0), ⟨by rw [eg]; decide, by decide, by decide⟩, ?_⟩
  have c73' : ∀ h, M.call 73 [.agg #[.int .i64 0, .int .i64 0]] h = some (.tuple #[.agg #[.int .i64 0, .int .i64 0], .agg #[.int .i64 1, .int .i64 0]], h, []) := fun h => by
   have := c73 h
   rw [firP_0] at this
   exact this
  refine call_run sf48 rfl rfl rfl ?_
  unfold sf48
  repeat (first | apply Z1 | apply Z2 | apply Z3 | apply Z4 | apply Z5 rfl | apply Z6 | apply Z7 | apply Z8 | apply Z9 | apply ZA | apply ZB | apply ZC | ((first | apply ZD (by decide) | apply ZN (by decide)); (simp (maxSteps := 9999999) only [go_sem, argR, c64, c73', Nat.add_assoc]; rfl)) | (refine ZE ?_ ?_; · simp only [go_sem]) | (refine ZF ?_ ?_; · simp only [go_sem]))
  exact end_nil (q_free [agV (0, 0), agV (0, 0), agV (0, 0), .int .i64 0] (by simp only [go_sem]) rfl rfl rfl (fun _ => rfl) (take_app _ _) rfl)
 ·have z' : ((firP a).1 = (0, 0)) = False := eq_false (fir_ne z)
  have bfu : Bd 1 (firP a).2 := by
   have := firU_bd a
   unfold firP Bd conjP at *; dsimp only at *; omega
  have c78 := fun h => turned78 bfu (by decide) h
  have ecj : conjP (firP a).2 = firstU a := conj_conj _
  rw [ecj] at c78
  refine ⟨firstU a, (0, 0), ⟨by rw [eg, fir_mul, zero_mul', mul_comm']; unfold addP; refine Prod.ext ?_ ?_ <;> dsimp only <;> omega, (firU_bd a).mono (by decide), by decide⟩, ?_⟩
  refine call_run sf48 rfl rfl rfl ?_
  unfold sf48
  repeat (first | apply Z1 | apply Z2 | apply Z3 | apply Z4 | apply Z5 rfl | apply Z6 | apply Z7 | apply Z8 | apply Z9 | apply ZA | apply ZB | apply ZC | ((first | apply ZD (by decide) | apply ZN (by decide)); (simp (maxSteps := 9999999) only [go_sem, argR, c64, c73, z', c78, Nat.add_assoc]; rfl)) | (refine ZE ?_ ?_; · simp only [go_sem]) | (refine ZF ?_ ?_; · simp only [go_sem]))
  exact end_nil (q_free [agV (firP a).1, agV (firstU a), agV (0, 0), .int .i64 0] (by simp only [go_sem]) rfl rfl rfl (fun _ => rfl) (take_app _ _) rfl)
theorem bezout {a b : Int × Int} (ha : Bd 30000 a) (hb : Bd 30000 b) (h : SHeap) : ∃ u v, BR a b u v ∧ M.call 48 [agV a, agV b] h = some (.tuple #[agV (gcdP a b), agV u, agV v, .int .i64 0], h, []) := by
 by_cases z : b = (0, 0)
 ·subst z; exact bezout48_0 ha h
 ·exact bezout48 ha hb z h
theorem bezoutAt {a b : Int × Int} (ha : Bd 30000 a) (hb : Bd 30000 b) : ∃ F : SHeap → (Int × Int) × (Int × Int), ∀ h, BR a b (F h).1 (F h).2 ∧ M.call 48 [agV a, agV b] h = some (.tuple #[agV (gcdP a b), agV (F h).1, agV (F h).2, .int .i64 0], h, []) := by
 refine ⟨fun h => (Classical.choose (bezout ha hb h), Classical.choose (Classical.choose_spec (bezout ha hb h))), fun h => ?_⟩
 exact Classical.choose_spec (Classical.choose_spec (bezout ha hb h))
end
end Go.Proofs.YtdmfhdnpakgkpaaDoor.Sh
namespace Go.Proofs.YtdmfhdnpakgkpaaDoor.Sh
section
open Go
set_option maxRecDepth 100000
set_option maxHeartbeats 4000000
theorem eqOne (p : Int × Int) : eqS (.agg [.int, .int]) (.agg #[.int .i64 p.1, .int .i64 p.2]) (.agg #[.int .i64 1, .int .i64 0]) = some (decide (p = (1, 0))) := eqP p (1, 0)
attribute [go_sem ↓ high] eqOne
theorem gcd_one {a b : Int × Int} (h : b ≠ (0, 0)) : gcdP a b = (1, 0) ↔ nrm (gcdP a b) = 1 := by
 constructor
 ·intro e; rw [e]; decide
 ·intro e
  have hr : eu a b ≠ (0, 0) := by
   intro z
   have : gcdP a b = (0, 0) := by unfold gcdP; rw [z]; decide
   rw [this] at e
   exact absurd e (by decide)
  have hf := fir_isF hr
  have e' : nrm (firP (eu a b)).1 = 1 := e
  have hg : gcdP a b = (firP (eu a b)).1 := rfl
  rw [hg]
  generalize (firP (eu a b)).1 = p at *
  obtain ⟨h1, h2⟩ := hf
  have s1 := abs_sq p.1
  have s2 := abs_sq p.2
  have s3 := Int.mul_le_mul (show (1 : Int) ≤ p.1 by omega) (show (1 : Int) ≤ p.1 by omega) (by omega) (by omega)
  unfold nrm at e'
  have p2 : p.2 = 0 := by omega
  have p1 : p.1 = 1 := by omega
  exact Prod.ext p1 p2
theorem inverse53_none {x y : Int × Int} (hx : Bd 30000 x) (hy : Bd 30000 y) (h0 : y ≠ (0, 0)) (hg : gcdP x y ≠ (1, 0)) (h : SHeap) : M.call 53 [agV x, agV y] h = some (.tuple #[agV (0, 0), .int .i64 4], h, []) := by
 obtain ⟨F, hF⟩ := bezoutAt hx hy
 have c48 := fun h => (hF h).2
 have z' : (y = (0, 0)) = False := eq_false h0
 have g' : (gcdP x y = (1, 0)) = False := eq_false hg
 refine call_run sf53 rfl rfl rfl ?_
 unfold sf53
 repeat (first | apply Z1 | apply Z2 | apply Z3 | apply Z4 | apply Z5 rfl | apply Z6 | apply Z7 | apply Z8 | apply Z9 | apply ZA | apply ZB | apply ZC | ((first | apply ZD (by decide) | apply ZN (by decide)); (simp (maxSteps := 9999999) only [go_sem, argR, c48, z', g']; rfl)) | (refine ZE ?_ ?_; · simp only [go_sem]) | (refine ZF ?_ ?_; · simp only [go_sem]))
 exact end_nil (q_free [agV (0, 0), .int .i64 4] (by simp only [go_sem]) rfl rfl rfl (fun _ => rfl) (take_app _ _) rfl)
theorem inverse53 {x y : Int × Int} (hx : Bd 30000 x) (hy : Bd 30000 y) (h0 : y ≠ (0, 0)) (hg : gcdP x y = (1, 0)) (h : SHeap) : ∃ u v, BR x y u v ∧ M.call 53 [agV x, agV y] h = some (.tuple #[agV (restP u y), .int .i64 0], h, []) := by
 obtain ⟨u, v, hB, c48⟩ := bezout hx hy (h ++ [bx x, bx y, bz])
 refine ⟨u, v, hB, ?_⟩
 have z' : (y = (0, 0)) = False := eq_false h0
 have c60 := fun h => quo60 hB.bu hy (by decide) (by decide) (by decide) h0 h
 rw [hg] at c48
 refine call_run sf53 rfl rfl rfl ?_
 unfold sf53
 repeat (first | apply Z1 | apply Z2 | apply Z3 | apply Z4 | apply Z5 rfl | apply Z6 | apply Z7 | apply Z8 | apply Z9 | apply ZA | apply ZB | apply ZC | ((first | apply ZD (by decide) | apply ZN (by decide)); (simp (maxSteps := 9999999) only [go_sem, argR, c48, z', c60]; rfl)) | (refine ZE ?_ ?_; · simp only [go_sem]) | (refine ZF ?_ ?_; · simp only [go_sem]))
 exact end_nil (q_free [agV (restP u y), .int .i64 0] (by simp only [go_sem]) rfl rfl rfl (fun _ => rfl) (take_app _ _) rfl)
theorem inv_dv {x y u v : Int × Int} (h0 : y ≠ (0, 0)) (hB : BR x y u v) (hg : gcdP x y = (1, 0)) : dv y (subP (mulP (restP x y) (restP u y)) (1, 0)) := by
 have m := hB.made
 rw [hg] at m
 have q1 := quo_rest x y
 have q2 := quo_rest u y
 generalize quoP x y = k at *
 generalize quoP u y = l at *
 generalize restP x y = r at *
 generalize restP u y = s at *
 refine ⟨subP (mulP (-1, 0) v) (addP (addP (mulP l x) (mulP k s)) (0, 0)), ?_⟩
 rw [← m]
 rw [q2]
 rw [q1]
 unfold subP addP mulP; refine Prod.ext ?_ ?_ <;> dsimp only <;> grind
end
end Go.Proofs.YtdmfhdnpakgkpaaDoor.Sh
namespace Go.Proofs.YtdmfhdnpakgkpaaDoor.Sh
section
open Go
set_option maxRecDepth 100000
set_option maxHeartbeats 4000000
theorem sa_two (b o : Nat) : sliceArrS 2 1 (.pointer (some ⟨b, o, none⟩)) none none none = some (.slice (some ⟨b, o, none⟩) 2 2) := (rfl)
attribute [go_sem ↓] sa_two
def cmpI (x y : Int) : Int := if x < y then -1 else if y < x then 1 else 0
def lexC : List Int → List Int → Int
 | [], [] => 0
 | [], _ :: _ => -1
 | _ :: _, [] => 1
 | x :: xs, y :: ys => if cmpI x y = 0 then lexC xs ys else cmpI x y
theorem cmpI_0 {x y : Int} : cmpI x y = 0 ↔ x = y := by
 unfold cmpI; split
 ·omega
 ·split <;> omega
theorem cmpI_lt {x y : Int} : cmpI x y < 0 ↔ x < y := by
 unfold cmpI; split
 ·omega
 ·split <;> omega
theorem lexC_lt : ∀ (x y : Int) (xs ys : List Int), lexC (x :: xs) (y :: ys) < 0 ↔ x < y ∨ (x = y ∧ lexC xs ys < 0) := by
 intro x y xs ys
 show (if cmpI x y = 0 then lexC xs ys else cmpI x y) < 0 ↔ _
 by_cases e : x = y
 ·rw [if_pos (cmpI_0.2 e)]
  constructor
  ·intro h; exact .inr ⟨e, h⟩
  ·rintro (h | h)
   ·omega
   ·exact h.2
 ·rw [if_neg (fun h => e (cmpI_0.1 h)), cmpI_lt]
  constructor
  ·intro h; exact .inl h
  ·rintro (h | h)
   ·exact h
   ·exact (e h.1).elim
theorem lexC_irr : ∀ l, ¬ lexC l l < 0
 | [] => by show ¬ (0 : Int) < 0; omega
 | x :: xs => by
  rw [lexC_lt]
  rintro (h | h)
  ·omega
  ·exact lexC_irr xs h.2
theorem lexC_asym : ∀ a b, lexC a b < 0 → ¬ lexC b a < 0
 | [], [], h => by
  have : (0 : Int) < 0 := h
  omega
 | [], y :: ys, _ => by show ¬ (1 : Int) < 0; omega
 | x :: xs, [], h => by
  have : (1 : Int) < 0 := h
  omega
 | x :: xs, y :: ys, h => by
  rw [lexC_lt] at h ⊢
  rintro (k | k)
  ·rcases h with h | h <;> omega
  ·rcases h with h | h
   ·omega
   ·exact lexC_asym xs ys h.2 k.2
theorem lexC_ntr : ∀ a b c, ¬ lexC a b < 0 → ¬ lexC b c < 0 → ¬ lexC a c < 0
 | [], [], c, _, h2 => h2
 | [], y :: ys, c, h1, _ => (h1 (by show (-1 : Int) < 0; omega)).elim
 | x :: xs, b, [], _, _ => by show ¬ (1 : Int) < 0; omega
 | x :: xs, [], z :: zs, _, h2 => (h2 (by show (-1 : Int) < 0; omega)).elim
 | x :: xs, y :: ys, z :: zs, h1, h2 => by
  rw [lexC_lt] at h1 h2 ⊢
  rintro (k | k)
  ·by_cases e1 : x < y
   ·exact h1 (.inl e1)
   ·by_cases e2 : y < z
    ·exact h2 (.inl e2)
    ·omega
  ·by_cases e1 : x < y
   ·exact h1 (.inl e1)
   ·by_cases e2 : y < z
    ·exact h2 (.inl e2)
    ·have e3 : x = y := by omega
     have e4 : y = z := by omega
     exact lexC_ntr xs ys zs (fun h => h1 (.inr ⟨e3, h⟩)) (fun h => h2 (.inr ⟨e4, h⟩)) k.2
theorem lexC_anti : ∀ a b : List Int, a.length = b.length → ¬ lexC a b < 0 → ¬ lexC b a < 0 → a = b
 | [], [], _, _, _ => rfl
 | [], y :: ys, h, _, _ => by simp at h
 | x :: xs, [], h, _, _ => by simp at h
 | x :: xs, y :: ys, h, h1, h2 => by
  rw [lexC_lt] at h1 h2
  have e : x = y := by
   by_cases k1 : x < y
   ·exact (h1 (.inl k1)).elim
   ·by_cases k2 : y < x
    ·exact (h2 (.inl k2)).elim
    ·omega
  subst e
  rw [lexC_anti xs ys (by simpa using h) (fun k => h1 (.inr ⟨rfl, k⟩)) (fun k => h2 (.inr ⟨rfl, k⟩))]
theorem nan100 (x : Int) (h : SHeap) : M.call 100 [.int .i64 x] h = some (.bool false, h, []) := by
 refine call_run sf100 rfl rfl rfl ?_
 unfold sf100
 repeat (first | apply Z1 | apply Z2 | apply Z3 | apply Z4 | apply Z5 rfl | apply Z6 | apply Z7 | apply Z8 | apply Z9 | apply ZA | apply ZB | apply ZC | ((first | apply ZD (by decide) | apply ZN (by decide)); (simp (maxSteps := 9999999) only [go_sem, argR]; rfl)) | (refine ZE ?_ ?_; · simp only [go_sem]) | (refine ZF ?_ ?_; · simp only [go_sem]))
 exact end_nil (q_ret1 _ (by simp only [go_sem]) rfl (take_self _))
theorem cmp83 (x y : Int) (h : SHeap) : M.call 83 [.int .i64 x, .int .i64 y] h = some (.int .i64 (cmpI x y), h, []) := by
 refine call_run sf83 rfl rfl rfl ?_
 unfold sf83
 unfold cmpI
 by_cases e1 : x < y
 ·rw [if_pos e1]
  repeat (first | apply Z1 | apply Z2 | apply Z3 | apply Z4 | apply Z5 rfl | apply Z6 | apply Z7 | apply Z8 | apply Z9 | apply ZA | apply ZB | apply ZC | ((first | apply ZD (by decide) | apply ZN (by decide)); (simp (maxSteps := 9999999) only [go_sem, argR, nan100, e1]; rfl)) | (refine ZE ?_ ?_; · simp only [go_sem]) | (refine ZF ?_ ?_; · simp only [go_sem]))
  exact end_nil (q_ret1 _ (by simp only [go_sem]) rfl (take_self _))
 ·rw [if_neg e1]
  by_cases e2 : y < x
  ·rw [if_pos e2]
   repeat (first | apply Z1 | apply Z2 | apply Z3 | apply Z4 | apply Z5 rfl | apply Z6 | apply Z7 | apply Z8 | apply Z9 | apply ZA | apply ZB | apply ZC | ((first | apply ZD (by decide) | apply ZN (by decide)); (simp (maxSteps := 9999999) only [go_sem, argR, nan100, e1, e2]; rfl)) | (refine ZE ?_ ?_; · simp only [go_sem]) | (refine ZF ?_ ?_; · simp only [go_sem]))
   exact end_nil (q_ret1 _ (by simp only [go_sem]) rfl (take_self _))
  ·rw [if_neg e2]
   repeat (first | apply Z1 | apply Z2 | apply Z3 | apply Z4 | apply Z5 rfl | apply Z6 | apply Z7 | apply Z8 | apply Z9 | apply ZA | apply ZB | apply ZC | ((first | apply ZD (by decide) | apply ZN (by decide)); (simp (maxSteps := 9999999) only [go_sem, argR, nan100, e1, e2]; rfl)) | (refine ZE ?_ ?_; · simp only [go_sem]) | (refine ZF ?_ ?_; · simp only [go_sem]))
   exact end_nil (q_ret1 _ (by simp only [go_sem]) rfl (take_self _))
def IL (h : SHeap) (b o : Nat) (l : List Int) : Prop := ∀ (i : Nat) (hi : i < l.length), loadS h none (.pointer (some ⟨b, o + i, none⟩)) = some (.int .i64 l[i])
theorem lex_loop (cx : Cx) {h : SHeap} {ba oa bb ob ca cb : Nat} {a b : List Int} (ha : IL h ba oa a) (hb : IL h bb ob b) (hl : a.length ≤ 1000000) (hl2 : b.length ≤ 1000000) : ∀ k ρ ms h' d', (∃ i : Nat, i + k = a.length ∧ lexC a b = lexC (a.drop i) (b.drop i) ∧ ρ 0 = .slice (some ⟨ba, oa, none⟩) a.length ca ∧ ρ 1 = .slice (some ⟨bb, ob, none⟩) b.length cb ∧ ρ 9 = .slice (some ⟨ba, oa, none⟩) a.length ca ∧ ρ 10 = .int .i64 a.length ∧ ρ 11 = .int .i64 i ∧ ms = [] ∧ h' = h ∧ d' = []) →
  LoopW M cx 6 sf63L0 ρ ms h' d' (fun ex ρ' ms' h' d' => ms' = [] ∧ h' = h ∧ d' = [] ∧ ((ex = .exit 0 ∧ lexC a b = (if a.length < b.length then -1 else 0) ∧ ρ' 0 = .slice (some ⟨ba, oa, none⟩) a.length ca ∧ ρ' 1 = .slice (some ⟨bb, ob, none⟩) b.length cb) ∨ (ex = .ret ∧ ρ' 4 = .int .i64 (lexC a b)))) := by
 refine loop_run _ ?_
 rintro k ρ ms h' d' ⟨i, hi, he, r0, r1, r9, r10, r11, rfl, rfl, rfl⟩
 unfold sf63L0
 by_cases hk : k = 0
 ·have e1 : ¬ ((i : Int) < a.length) := by omega
  repeat (first | apply Z1 | apply Z2 | apply Z3 | apply Z4 | apply Z5 rfl | apply Z6 | apply Z7 | apply Z8 | apply Z9 | apply ZA | apply ZB | apply ZC | ((first | apply ZD (by decide) | apply ZN (by decide)); (simp (maxSteps := 9999999) only [go_sem, r9, r10, r11, e1]; rfl)) | (refine ZE ?_ ?_; · simp only [go_sem]) | (refine ZF ?_ ?_; · simp only [go_sem]))
  refine end_nil ⟨rfl, rfl, rfl, .inl ⟨rfl, ?_, by simp only [go_sem, r0], by simp only [go_sem, r1]⟩⟩
  rw [he, List.drop_eq_nil_of_le (by omega)]
  by_cases c : a.length < b.length
  ·rw [if_pos c]
   obtain ⟨y, ys, e⟩ : ∃ y ys, b.drop i = y :: ys := by
    cases e : b.drop i with
    | nil => have := congrArg List.length e; simp at this; omega
    | cons y ys => exact ⟨y, ys, rfl⟩
   rw [e]; rfl
  ·rw [if_neg c, List.drop_eq_nil_of_le (by omega)]; rfl
 ·have e1 : ((i : Int) < a.length) := by omega
  have hia : i < a.length := by omega
  have p1 : (0 : Int) ≤ (i : Int) := by omega
  have l1 := ha i hia
  have da : a.drop i = a[i] :: a.drop (i + 1) := by simp
  by_cases c : i < b.length
  ·have e2 : ¬ ((b.length : Int) ≤ i) := by omega
   have p2 : (i : Int) < b.length := by omega
   have l2 := hb i c
   have db : b.drop i = b[i] :: b.drop (i + 1) := by simp
   have ew : IntKind.i64.wrap ((i : Int) + 1) = ((i + 1 : Nat) : Int) := by rw [wrap64 (by omega) (by omega)]; rfl
   rw [da, db] at he
   generalize a[i] = x at *
   generalize b[i] = y at *
   have he' : lexC a b = (if cmpI x y = 0 then lexC (a.drop (i + 1)) (b.drop (i + 1)) else cmpI x y) := he
   by_cases z : cmpI x y = 0
   ·rw [if_pos z] at he'
    repeat (first | apply Z1 | apply Z2 | apply Z3 | apply Z4 | apply Z5 rfl | apply Z6 | apply Z7 | apply Z8 | apply Z9 | apply ZA | apply ZB | apply ZC | ((first | apply ZD (by decide) | apply ZN (by decide)); (simp (maxSteps := 9999999) only [go_sem, r0, r1, r9, r10, r11, e1, p1, l1, e2, p2, l2, cmp83, z, ew]; rfl)) | (refine ZE ?_ ?_; · simp only [go_sem]) | (refine ZF ?_ ?_; · simp only [go_sem]))
    exact end_nil ⟨k - 1, by omega, i + 1, by omega, he', by simp only [go_sem, r0], by simp only [go_sem, r1], by simp only [go_sem, r9], by simp only [go_sem, r10], by simp only [go_sem, ew], rfl, rfl, rfl⟩
   ·rw [if_neg z] at he'
    repeat (first | apply Z1 | apply Z2 | apply Z3 | apply Z4 | apply Z5 rfl | apply Z6 | apply Z7 | apply Z8 | apply Z9 | apply ZA | apply ZB | apply ZC | ((first | apply ZD (by decide) | apply ZN (by decide)); (simp (maxSteps := 9999999) only [go_sem, r0, r1, r9, r10, r11, e1, p1, l1, e2, p2, l2, cmp83, z]; rfl)) | (refine ZE ?_ ?_; · simp only [go_sem]) | (refine ZF ?_ ?_; · simp only [go_sem]))
    exact end_nil ⟨rfl, rfl, rfl, .inr ⟨rfl, by rw [he']; simp only [go_sem]⟩⟩
  ·have e2 : ((b.length : Int) ≤ i) := by omega
   repeat (first | apply Z1 | apply Z2 | apply Z3 | apply Z4 | apply Z5 rfl | apply Z6 | apply Z7 | apply Z8 | apply Z9 | apply ZA | apply ZB | apply ZC | ((first | apply ZD (by decide) | apply ZN (by decide)); (simp (maxSteps := 9999999) only [go_sem, r0, r1, r9, r10, r11, e1, p1, l1, e2]; rfl)) | (refine ZE ?_ ?_; · simp only [go_sem]) | (refine ZF ?_ ?_; · simp only [go_sem]))
   refine end_nil ⟨rfl, rfl, rfl, .inr ⟨rfl, ?_⟩⟩
   rw [he, da, List.drop_eq_nil_of_le (show b.length ≤ i by omega)]
   simp only [go_sem]
   rfl
theorem lex63 {h : SHeap} {ba oa bb ob ca cb : Nat} {a b : List Int} (ha : IL h ba oa a) (hb : IL h bb ob b) (hl : a.length ≤ 1000000) (hl2 : b.length ≤ 1000000) {na nb : Nat} (hna : na = a.length) (hnb : nb = b.length) : M.call 63 [.slice (some ⟨ba, oa, none⟩) na ca, .slice (some ⟨bb, ob, none⟩) nb cb] h = some (.int .i64 (lexC a b), h, []) := by
 subst hna hnb
 refine call_run sf63 rfl rfl rfl ?_
 unfold sf63
 repeat (first | apply Z1 | apply Z2 | apply Z3 | apply Z4 | apply Z5 rfl | apply Z6 | apply Z7 | apply Z8 | apply Z9 | apply ZA | apply ZB | apply ZC | ((first | apply ZD (by decide) | apply ZN (by decide)); (simp (maxSteps := 9999999) only [go_sem, argR]; rfl)) | (refine ZE ?_ ?_; · simp only [go_sem]) | (refine ZF ?_ ?_; · simp only [go_sem]))
 refine run_loop (lex_loop (ca := ca) (cb := cb) _ ha hb hl hl2 a.length _ _ _ _ ⟨0, by omega, by simp, by simp only [go_sem, argR], by simp only [go_sem, argR], by simp only [go_sem, argR], by simp only [go_sem, argR], by (simp only [go_sem]) <;> rfl, rfl, rfl, rfl⟩) ?_
 rintro ex ρ' ms' h1 d1 ⟨rfl, rfl, rfl, ⟨rfl, he, k0, k1⟩ | ⟨rfl, k4⟩⟩
 ·by_cases c : a.length < b.length
  ·have e1 : (a.length : Int) < b.length := by omega
   rw [if_pos c] at he
   rw [he]
   repeat (first | apply Z1 | apply Z2 | apply Z3 | apply Z4 | apply Z5 rfl | apply Z6 | apply Z7 | apply Z8 | apply Z9 | apply ZA | apply ZB | apply ZC | ((first | apply ZD (by decide) | apply ZN (by decide)); (simp (maxSteps := 9999999) only [go_sem, k0, k1, e1]; rfl)) | (refine ZE ?_ ?_; · simp only [go_sem]) | (refine ZF ?_ ?_; · simp only [go_sem]))
   exact end_nil (q_ret1 _ (by simp only [go_sem]) rfl (take_self _))
  ·have e1 : ¬ (a.length : Int) < b.length := by omega
   rw [if_neg c] at he
   rw [he]
   repeat (first | apply Z1 | apply Z2 | apply Z3 | apply Z4 | apply Z5 rfl | apply Z6 | apply Z7 | apply Z8 | apply Z9 | apply ZA | apply ZB | apply ZC | ((first | apply ZD (by decide) | apply ZN (by decide)); (simp (maxSteps := 9999999) only [go_sem, k0, k1, e1]; rfl)) | (refine ZE ?_ ?_; · simp only [go_sem]) | (refine ZF ?_ ?_; · simp only [go_sem]))
   exact end_nil (q_ret1 _ (by simp only [go_sem]) rfl (take_self _))
 ·repeat (first | apply Z1 | apply Z2 | apply Z3 | apply Z4 | apply Z5 rfl | apply Z6 | apply Z7 | apply Z8 | apply Z9 | apply ZA | apply ZB | apply ZC | ((first | apply ZD (by decide) | apply ZN (by decide)); (simp (maxSteps := 9999999) only [go_sem]; rfl)) | (refine ZE ?_ ?_; · simp only [go_sem]) | (refine ZF ?_ ?_; · simp only [go_sem]))
  exact end_nil (q_ret1 _ (by simp only [go_sem, k4]) rfl (take_self _))
end
end Go.Proofs.YtdmfhdnpakgkpaaDoor.Sh
namespace Go.Proofs.YtdmfhdnpakgkpaaDoor.Sh
section
open Go
set_option maxRecDepth 100000
set_option maxHeartbeats 4000000
def orL : List Int → Int
 | [] => 0
 | x :: xs => if x = 0 then orL xs else x
theorem or_loop (cx : Cx) {h : SHeap} {ba oa ca : Nat} {a : List Int} (ha : IL h ba oa a) (hl : a.length ≤ 1000000) : ∀ k ρ ms h' d', (∃ i : Nat, i + k = a.length ∧ orL a = orL (a.drop i) ∧ ρ 3 = .int .i64 0 ∧ ρ 6 = .slice (some ⟨ba, oa, none⟩) a.length ca ∧ ρ 7 = .int .i64 a.length ∧ ρ 8 = .int .i64 i ∧ ms = [] ∧ h' = h ∧ d' = []) →
  LoopW M cx 5 sf85L0 ρ ms h' d' (fun ex ρ' ms' h' d' => ms' = [] ∧ h' = h ∧ d' = [] ∧ ((ex = .exit 0 ∧ orL a = 0 ∧ ρ' 3 = .int .i64 0) ∨ (ex = .ret ∧ ρ' 2 = .int .i64 (orL a)))) := by
 refine loop_run _ ?_
 rintro k ρ ms h' d' ⟨i, hi, he, r3, r6, r7, r8, rfl, rfl, rfl⟩
 unfold sf85L0
 by_cases hk : k = 0
 ·have e1 : ¬ ((i : Int) < a.length) := by omega
  repeat (first | apply Z1 | apply Z2 | apply Z3 | apply Z4 | apply Z5 rfl | apply Z6 | apply Z7 | apply Z8 | apply Z9 | apply ZA | apply ZB | apply ZC | ((first | apply ZD (by decide) | apply ZN (by decide)); (simp (maxSteps := 9999999) only [go_sem, r6, r7, r8, e1]; rfl)) | (refine ZE ?_ ?_; · simp only [go_sem]) | (refine ZF ?_ ?_; · simp only [go_sem]))
  refine end_nil ⟨rfl, rfl, rfl, .inl ⟨rfl, ?_, by simp only [go_sem, r3]⟩⟩
  rw [he, List.drop_eq_nil_of_le (by omega)]
  rfl
 ·have e1 : ((i : Int) < a.length) := by omega
  have hia : i < a.length := by omega
  have p1 : (0 : Int) ≤ (i : Int) := by omega
  have l1 := ha i hia
  have da : a.drop i = a[i] :: a.drop (i + 1) := by simp
  have ew : IntKind.i64.wrap ((i : Int) + 1) = ((i + 1 : Nat) : Int) := by rw [wrap64 (by omega) (by omega)]; rfl
  rw [da] at he
  generalize a[i] = x at *
  have he' : orL a = (if x = 0 then orL (a.drop (i + 1)) else x) := he
  by_cases z : x = 0
  ·rw [if_pos z] at he'
   repeat (first | apply Z1 | apply Z2 | apply Z3 | apply Z4 | apply Z5 rfl | apply Z6 | apply Z7 | apply Z8 | apply Z9 | apply ZA | apply ZB | apply ZC | ((first | apply ZD (by decide) | apply ZN (by decide)); (simp (maxSteps := 9999999) only [go_sem, r3, r6, r7, r8, e1, p1, l1, z, ew]; rfl)) | (refine ZE ?_ ?_; · simp only [go_sem]) | (refine ZF ?_ ?_; · simp only [go_sem]))
   exact end_nil ⟨k - 1, by omega, i + 1, by omega, he', by simp only [go_sem, r3], by simp only [go_sem, r6], by simp only [go_sem, r7], by simp only [go_sem, ew], rfl, rfl, rfl⟩
  ·rw [if_neg z] at he'
   repeat (first | apply Z1 | apply Z2 | apply Z3 | apply Z4 | apply Z5 rfl | apply Z6 | apply Z7 | apply Z8 | apply Z9 | apply ZA | apply ZB | apply ZC | ((first | apply ZD (by decide) | apply ZN (by decide)); (simp (maxSteps := 9999999) only [go_sem, r3, r6, r7, r8, e1, p1, l1, z, ew]; rfl)) | (refine ZE ?_ ?_; · simp only [go_sem]) | (refine ZF ?_ ?_; · simp only [go_sem]))
   exact end_nil ⟨rfl, rfl, rfl, .inr ⟨rfl, by rw [he']; simp only [go_sem]⟩⟩
theorem or85 {h : SHeap} {ba oa ca : Nat} {a : List Int} (ha : IL h ba oa a) (hl : a.length ≤ 1000000) {na : Nat} (hna : na = a.length) : M.call 85 [.slice (some ⟨ba, oa, none⟩) na ca] h = some (.int .i64 (orL a), h, []) := by
 subst hna
 refine call_run sf85 rfl rfl rfl ?_
 unfold sf85
 repeat (first | apply Z1 | apply Z2 | apply Z3 | apply Z4 | apply Z5 rfl | apply Z6 | apply Z7 | apply Z8 | apply Z9 | apply ZA | apply ZB | apply ZC | ((first | apply ZD (by decide) | apply ZN (by decide)); (simp (maxSteps := 9999999) only [go_sem, argR]; rfl)) | (refine ZE ?_ ?_; · simp only [go_sem]) | (refine ZF ?_ ?_; · simp only [go_sem]))
 refine run_loop (or_loop (ca := ca) _ ha hl a.length _ _ _ _ ⟨0, by omega, by simp, by simp only [go_sem, argR], by simp only [go_sem, argR], by simp only [go_sem, argR], by (simp only [go_sem]) <;> rfl, rfl, rfl, rfl⟩) ?_
 rintro ex ρ' ms' h1 d1 ⟨rfl, rfl, rfl, ⟨rfl, he, k3⟩ | ⟨rfl, k2⟩⟩
 ·rw [he]
  repeat (first | apply Z1 | apply Z2 | apply Z3 | apply Z4 | apply Z5 rfl | apply Z6 | apply Z7 | apply Z8 | apply Z9 | apply ZA | apply ZB | apply ZC | ((first | apply ZD (by decide) | apply ZN (by decide)); (simp (maxSteps := 9999999) only [go_sem, k3]; rfl)) | (refine ZE ?_ ?_; · simp only [go_sem]) | (refine ZF ?_ ?_; · simp only [go_sem]))
  exact end_nil (q_ret1 _ (by simp only [go_sem]) rfl (take_self _))
 ·repeat (first | apply Z1 | apply Z2 | apply Z3 | apply Z4 | apply Z5 rfl | apply Z6 | apply Z7 | apply Z8 | apply Z9 | apply ZA | apply ZB | apply ZC | ((first | apply ZD (by decide) | apply ZN (by decide)); (simp (maxSteps := 9999999) only [go_sem]; rfl)) | (refine ZE ?_ ?_; · simp only [go_sem]) | (refine ZF ?_ ?_; · simp only [go_sem]))
  exact end_nil (q_ret1 _ (by simp only [go_sem, k2]) rfl (take_self _))
abbrev Fa := Int × Int × Int
def celF (x : Fa) : List Value := [.int .i64 x.1, .int .i64 x.2.1, .int .i64 x.2.2]
def bxF (x : Fa) : SO := .cells (celF x) 84 true 0 []
def cF (x y : Fa) : Int := orL [cmpI x.1 y.1, lexC [x.2.1, x.2.2] [y.2.1, y.2.2]]
theorem cF_lex (x y : Fa) : cF x y = lexC [x.1, x.2.1, x.2.2] [y.1, y.2.1, y.2.2] := by
 show (if cmpI x.1 y.1 = 0 then (if lexC [x.2.1, x.2.2] [y.2.1, y.2.2] = 0 then 0 else lexC [x.2.1, x.2.2] [y.2.1, y.2.2]) else cmpI x.1 y.1) = (if cmpI x.1 y.1 = 0 then lexC [x.2.1, x.2.2] [y.2.1, y.2.2] else cmpI x.1 y.1)
 by_cases c : cmpI x.1 y.1 = 0
 ·rw [if_pos c, if_pos c]
  by_cases d : lexC [x.2.1, x.2.2] [y.2.1, y.2.2] = 0
  ·rw [if_pos d, d]
  ·rw [if_neg d]
 ·rw [if_neg c, if_neg c]
theorem cmp71 (p q : Fa) (h : SHeap) : M.call 71 [.agg (celF p).toArray, .agg (celF q).toArray] h = some (.int .i64 (cF p q), h, []) := by
 have c63 : ∀ g, M.call 63 [.slice (some ⟨h.length, 1, none⟩) 2 2, .slice (some ⟨h.length + 1, 1, none⟩) 2 2] (h ++ bxF p :: bxF q :: g) = some (.int .i64 (lexC [p.2.1, p.2.2] [q.2.1, q.2.2]), h ++ bxF p :: bxF q :: g, []) := fun g =>
  lex63 (ba := h.length) (oa := 1) (bb := h.length + 1) (ob := 1) (ca := 2) (cb := 2) (a := [p.2.1, p.2.2]) (b := [q.2.1, q.2.2])
  (fun i hi => by
   match i, hi with
   | 0, _ => rw [load_app0]; rfl
   | 1, _ => rw [load_app0]; rfl)
  (fun i hi => by
   match i, hi with
   | 0, _ => rw [load_app]; rfl
   | 1, _ => rw [load_app]; rfl) (by simp) (by simp) (na := 2) (nb := 2) rfl rfl
 have c85 : ∀ z g, M.call 85 [.slice (some ⟨h.length + 2, 0, none⟩) 2 2] (h ++ bxF p :: bxF q :: .cells [.int .i64 (cmpI p.1 q.1), .int .i64 z] 3 true 0 [] :: g) = some (.int .i64 (orL [cmpI p.1 q.1, z]), h ++ bxF p :: bxF q :: .cells [.int .i64 (cmpI p.1 q.1), .int .i64 z] 3 true 0 [] :: g, []) := fun z g =>
  or85 (ba := h.length + 2) (oa := 0) (a := [cmpI p.1 q.1, z])
  (fun i hi => by
   match i, hi with
   | 0, _ => rw [load_app]; rfl
   | 1, _ => rw [load_app]; rfl) (by simp) (na := 2) rfl
 refine call_run sf71 rfl rfl rfl ?_
 unfold sf71 cF
 simp only [bxF, celF] at c63 c85
 unfold celF
 repeat (first | apply Z1 | apply Z2 | apply Z3 | apply Z4 | apply Z5 rfl | apply Z6 | apply Z7 | apply Z8 | apply Z9 | apply ZA | apply ZB | apply ZC | ((first | apply ZD (by decide) | apply ZN (by decide)); (simp (maxSteps := 9999999) only [go_sem, argR, c63, c85, cmp83, Nat.add_assoc]; rfl)) | (refine ZE ?_ ?_; · simp only [go_sem]) | (refine ZF ?_ ?_; · simp only [go_sem]))
 exact end_nil (q_ret1 _ (by simp only [go_sem]) rfl (take_app _ _))
theorem CF : Cmp M 71 celF cF := ⟨cmp71, fun x => by rw [cF_lex]; exact lexC_irr _, fun x y => by rw [cF_lex, cF_lex]; exact lexC_asym _ _, fun x y z => by rw [cF_lex, cF_lex, cF_lex]; exact lexC_ntr _ _ _⟩
theorem cF_anti {p q : Fa} (h1 : ¬ cF p q < 0) (h2 : ¬ cF q p < 0) : p = q := by
 rw [cF_lex] at h1 h2
 have := lexC_anti [p.1, p.2.1, p.2.2] [q.1, q.2.1, q.2.2] rfl h1 h2
 simp at this
 exact Prod.ext this.1 (Prod.ext this.2.1 this.2.2)
end
end Go.Proofs.YtdmfhdnpakgkpaaDoor.Sh
namespace Go.Proofs.YtdmfhdnpakgkpaaDoor.Sh
section
open Go
set_option maxRecDepth 100000
set_option maxHeartbeats 4000000
theorem prime76_loop (cx : Cx) {n : Nat} (hn : n ≤ 2000000000) (H : SHeap) : ∀ k ρ ms h' d', (∃ d : Nat, d + k = n + 2 ∧ 2 ≤ d ∧ ρ 0 = .int .i64 n ∧ ρ 3 = .int .i64 d ∧ (∀ e, 2 ≤ e → e < d → ¬ (n % e = 0 ∧ e * e ≤ n)) ∧ ms = [] ∧ h' = H ∧ d' = []) →
  LoopW M cx 5 sf76L0 ρ ms h' d' (fun ex ρ' ms' h' d' => ms' = [] ∧ h' = H ∧ d' = [] ∧ ((ex = .exit 0 ∧ primeN n = decide (2 ≤ n) ∧ ρ' 0 = .int .i64 n) ∨ (ex = .ret ∧ ρ' 2 = .bool false ∧ primeN n = false))) := by
 refine loop_run _ ?_
 rintro k ρ ms h' d' ⟨d, hd, hd2, r0, r3, hno, rfl, rfl, rfl⟩
 unfold sf76L0
 have w1 := mul_wn (a := d) (b := d) (by omega) (by omega)
 by_cases hc : d * d ≤ n
 ·have e1 : ((d * d : Nat) : Int) ≤ n := by omega
  have hz : ¬ ((d : Int) = 0) := by omega
  have ht := tmod_nat n d
  have hlt : d < n + 2 := by
   have : d * 1 ≤ d * d := Nat.mul_le_mul_left d (by omega)
   omega
  by_cases he : n % d = 0
  ·have e2 : ((n % d : Nat) : Int) = 0 := by omega
   have hp := prime_no hd2 hc he
   repeat (first | apply Z1 | apply Z2 | apply Z3 | apply Z4 | apply Z5 rfl | apply Z6 | apply Z7 | apply Z8 | apply Z9 | apply ZA | apply ZB | apply ZC | ((first | apply ZD (by decide) | apply ZN (by decide)); (simp (maxSteps := 9999999) only [go_sem, r0, r3, w1, e1, hz, ht, e2]; rfl)) | (refine ZE ?_ ?_; · simp only [go_sem]) | (refine ZF ?_ ?_; · simp only [go_sem]))
   exact end_nil ⟨rfl, rfl, rfl, .inr ⟨rfl, by simp only [go_sem], hp⟩⟩
  ·have e2 : ¬ (((n % d : Nat) : Int) = 0) := by omega
   have ew : IntKind.i64.wrap ((d : Int) + 1) = ((d + 1 : Nat) : Int) := by rw [wrap64 (by omega) (by omega)]; rfl
   repeat (first | apply Z1 | apply Z2 | apply Z3 | apply Z4 | apply Z5 rfl | apply Z6 | apply Z7 | apply Z8 | apply Z9 | apply ZA | apply ZB | apply ZC | ((first | apply ZD (by decide) | apply ZN (by decide)); (simp (maxSteps := 9999999) only [go_sem, r0, r3, w1, e1, hz, ht, e2, ew]; rfl)) | (refine ZE ?_ ?_; · simp only [go_sem]) | (refine ZF ?_ ?_; · simp only [go_sem]))
   refine end_nil ⟨k - 1, by omega, d + 1, by omega, by omega, by simp only [go_sem, r0], by simp only [go_sem, ew], fun e h1 h2 => ?_, rfl, rfl, rfl⟩
   by_cases e3 : e = d
   ·subst e3; exact fun h => he h.1
   ·exact hno e h1 (by omega)
 ·have e1 : ¬ (((d * d : Nat) : Int) ≤ n) := by omega
  repeat (first | apply Z1 | apply Z2 | apply Z3 | apply Z4 | apply Z5 rfl | apply Z6 | apply Z7 | apply Z8 | apply Z9 | apply ZA | apply ZB | apply ZC | ((first | apply ZD (by decide) | apply ZN (by decide)); (simp (maxSteps := 9999999) only [go_sem, r0, r3, w1, e1]; rfl)) | (refine ZE ?_ ?_; · simp only [go_sem]) | (refine ZF ?_ ?_; · simp only [go_sem]))
  refine end_nil ⟨rfl, rfl, rfl, .inl ⟨rfl, ?_, by simp only [go_sem, r0]⟩⟩
  by_cases h2 : 2 ≤ n
  ·rw [decide_eq_true h2, prime_iff]
   refine ⟨h2, fun e he1 he2 he3 => ?_⟩
   by_cases h3 : e < d
   ·exact hno e he1 h3 ⟨he3, he2⟩
   ·have := Nat.mul_le_mul (show d ≤ e by omega) (show d ≤ e by omega)
    omega
  ·rw [decide_eq_false h2]
   cases e : primeN n with
   | false => rfl
   | true => exact (h2 (prime_iff.1 e).1).elim
theorem prime76 {n : Nat} (hn : n ≤ 2000000000) (h : SHeap) : M.call 76 [.int .i64 n] h = some (.bool (primeN n), h, []) := by
 refine call_run sf76 rfl rfl rfl ?_
 unfold sf76
 repeat (first | apply Z1 | apply Z2 | apply Z3 | apply Z4 | apply Z5 rfl | apply Z6 | apply Z7 | apply Z8 | apply Z9 | apply ZA | apply ZB | apply ZC | ((first | apply ZD (by decide) | apply ZN (by decide)); (simp (maxSteps := 9999999) only [go_sem, argR]; rfl)) | (refine ZE ?_ ?_; · simp only [go_sem]) | (refine ZF ?_ ?_; · simp only [go_sem]))
 refine run_loop (prime76_loop _ hn h n _ _ _ _ ⟨2, by omega, by omega, by simp only [go_sem, argR], by (simp only [go_sem]) <;> rfl, fun e h1 h2 => by omega, rfl, rfl, rfl⟩) ?_
 rintro ex ρ' ms' h1 d1 ⟨rfl, rfl, rfl, ⟨rfl, he, k0⟩ | ⟨rfl, k2, he⟩⟩
 ·have e2 : decide ((2 : Int) ≤ n) = decide (2 ≤ n) := by
   by_cases c : 2 ≤ n
   ·rw [decide_eq_true c, decide_eq_true (by omega)]
   ·rw [decide_eq_false c, decide_eq_false (by omega)]
  rw [he]
  repeat (first | apply Z1 | apply Z2 | apply Z3 | apply Z4 | apply Z5 rfl | apply Z6 | apply Z7 | apply Z8 | apply Z9 | apply ZA | apply ZB | apply ZC | ((first | apply ZD (by decide) | apply ZN (by decide)); (simp (maxSteps := 9999999) only [go_sem, k0, e2]; rfl)) | (refine ZE ?_ ?_; · simp only [go_sem]) | (refine ZF ?_ ?_; · simp only [go_sem]))
  exact end_nil (q_ret1 _ (by simp only [go_sem]) rfl (take_self _))
 ·rw [he]
  repeat (first | apply Z1 | apply Z2 | apply Z3 | apply Z4 | apply Z5 rfl | apply Z6 | apply Z7 | apply Z8 | apply Z9 | apply ZA | apply ZB | apply ZC | ((first | apply ZD (by decide) | apply ZN (by decide)); (simp (maxSteps := 9999999) only [go_sem]; rfl)) | (refine ZE ?_ ?_; · simp only [go_sem]) | (refine ZF ?_ ?_; · simp only [go_sem]))
  exact end_nil (q_ret1 _ (by simp only [go_sem, k2]) rfl (take_self _))
theorem primeN_sq (n : Nat) : primeN (n * n) = false := by
 by_cases h : 2 ≤ n
 ·exact prime_no h (Nat.le_refl _) (Nat.mul_mod_left n n)
 ·cases e : primeN (n * n) with
  | false => rfl
  | true =>
   have := (prime_iff.1 e).1
   have h2 : n = 0 ∨ n = 1 := by omega
   rcases h2 with h2 | h2 <;> subst h2 <;> omega
theorem primeP_big {a b : Nat} (ha : 1 ≤ a) (h : primeP ((a : Int), (b : Int)) = true) : 2 ≤ a * a + b * b := by
 by_cases hb : b = 0
 ·subst hb
  unfold primeP at h
  rw [if_pos (.inr rfl)] at h
  have : mxP ((a : Int), ((0 : Nat) : Int)) = a := by unfold mxP; simp
  rw [this] at h
  simp only [Bool.and_eq_true, decide_eq_true_eq] at h
  have h2 : 3 ≤ a := by omega
  have := Nat.mul_le_mul h2 h2
  omega
 ·have h1 := Nat.mul_le_mul ha ha
  have h2 := Nat.mul_le_mul (show 1 ≤ b by omega) (show 1 ≤ b by omega)
  omega
end
end Go.Proofs.YtdmfhdnpakgkpaaDoor.Sh
namespace Go.Proofs.YtdmfhdnpakgkpaaDoor.Sh
section
open Go
set_option maxRecDepth 100000
set_option maxHeartbeats 4000000
theorem pw_range {E : Type} {R : E → E → Prop} (F : Nat → List E) (n : Nat) (h1 : ∀ i, i < n → (F i).Pairwise R) (h2 : ∀ i j, i < j → j < n → ∀ x ∈ F i, ∀ y ∈ F j, R x y) : ((List.range n).flatMap F).Pairwise R := by
 rw [List.pairwise_flatMap]
 refine ⟨fun i hi => h1 i (List.mem_range.1 hi), ?_⟩
 have := @List.pairwise_lt_range n
 refine List.Pairwise.imp_of_mem ?_ this
 intro i j hi hj hij
 exact h2 i j hij (List.mem_range.1 hj)
theorem fm_succ {E : Type} (F : Nat → List E) (n : Nat) : (List.range (n + 1)).flatMap F = (List.range n).flatMap F ++ F n := by
 rw [List.range_succ, List.flatMap_append]; simp
theorem fm_cut {E : Type} (F : Nat → List E) {b n : Nat} (hb : b ≤ n) (h : ∀ i, b ≤ i → i < n → F i = []) : (List.range n).flatMap F = (List.range b).flatMap F := by
 obtain ⟨k, rfl⟩ : ∃ k, n = b + k := ⟨n - b, by omega⟩
 clear hb
 induction k with
 | zero => rfl
 | succ k ih =>
  rw [← Nat.add_assoc, fm_succ, ih (fun i h1 h2 => h i h1 (by omega)), h (b + k) (by omega) (by omega), List.append_nil]
theorem fm_len {E : Type} (F : Nat → List E) (k : Nat) (h : ∀ i, (F i).length ≤ k) : ∀ n, ((List.range n).flatMap F).length ≤ n * k
 | 0 => by simp
 | n + 1 => by
  rw [fm_succ, List.length_append, Nat.succ_mul]
  have := fm_len F k h n
  have := h n
  omega
theorem flF_list {E : Type} (cel : E → List Value) (f : Nat → E) : ∀ n, flF cel f n = ((List.range n).map f).flatMap cel
 | 0 => rfl
 | n + 1 => by
  rw [List.range_succ, List.map_append, List.flatMap_append]
  show flF cel f n ++ cel (f n) = _
  rw [flF_list cel f n]; simp
theorem getD_range {E : Type} (l : List E) (d : E) : (List.range l.length).map (fun i => l.getD i d) = l := by
 apply List.ext_getElem
 ·simp
 ·intro i h1 h2
  simp at h1
  simp [h1]
theorem sorted_eq {E : Type} {c : E → E → Int} (anti : ∀ x y, ¬ c x y < 0 → ¬ c y x < 0 → x = y) {n : Nat} {f f' : Nat → E} (W : Sw 0 n f f') (O : Ord c 0 n f') {l l' : List E} (hl : (List.range n).map f = l) (hp : l.Perm l') (hs : l'.Pairwise (fun x y => ¬ c y x < 0)) : (List.range n).map f' = l' := by
 subst hl
 refine List.Perm.eq_of_pairwise (le := fun x y => ¬ c y x < 0) (fun a b _ _ h1 h2 => anti a b h2 h1) ?_ hs ((W.perm (Nat.le_refl n)).trans hp)
 rw [List.pairwise_map]
 refine List.Pairwise.imp_of_mem ?_ (@List.pairwise_lt_range n)
 intro i j hi hj hij
 exact O i j (Nat.zero_le _) hij (List.mem_range.1 hj)
def fa (a b : Nat) : Fa := (((a * a + b * b : Nat) : Int), (a : Int), (b : Int))
def gU (n a b : Nat) : List Fa := if 1 ≤ a ∧ a * a + b * b ≤ n ∧ primeP ((a : Int), (b : Int)) = true then [fa a b] else []
def rowU (n a b : Nat) : List Fa := (List.range b).flatMap (gU n a)
def listU (n a : Nat) : List Fa := (List.range a).flatMap fun a => rowU n a 45
def hD (m a b : Nat) : List Fa := if 2 ≤ m ∧ 1 ≤ a ∧ a * a + b * b = m ∧ primeP ((a : Int), (b : Int)) = true then [fa a b] else []
def colD (m a : Nat) : List Fa := (List.range 45).flatMap (hD m a)
def rowD (m a : Nat) : List Fa := (List.range a).flatMap (colD m)
def listD (m : Nat) : List Fa := (List.range m).flatMap fun m => rowD m 45
theorem mem_gU {n a b : Nat} {x : Fa} : x ∈ gU n a b ↔ x = fa a b ∧ 1 ≤ a ∧ a * a + b * b ≤ n ∧ primeP ((a : Int), (b : Int)) = true := by
 unfold gU; split
 ·rename_i h; simp only [List.mem_singleton]; exact ⟨fun e => ⟨e, h⟩, fun e => e.1⟩
 ·rename_i h; exact ⟨fun e => absurd e List.not_mem_nil, fun e => (h e.2).elim⟩
theorem mem_hD {m a b : Nat} {x : Fa} : x ∈ hD m a b ↔ x = fa a b ∧ 2 ≤ m ∧ 1 ≤ a ∧ a * a + b * b = m ∧ primeP ((a : Int), (b : Int)) = true := by
 unfold hD; split
 ·rename_i h; simp only [List.mem_singleton]; exact ⟨fun e => ⟨e, h⟩, fun e => e.1⟩
 ·rename_i h; exact ⟨fun e => absurd e List.not_mem_nil, fun e => (h e.2).elim⟩
theorem fa_inj {a b a' b' : Nat} (h : fa a b = fa a' b') : a = a' ∧ b = b' := by
 unfold fa at h
 have h1 := congrArg (fun x : Fa => x.2.1) h
 have h2 := congrArg (fun x : Fa => x.2.2) h
 dsimp only at h1 h2
 omega
theorem sq_45 {a n : Nat} (h : a * a ≤ n) (hn : n ≤ 2000) : a < 45 := by
 by_cases c : a < 45
 ·exact c
 ·have := Nat.mul_le_mul (show 45 ≤ a by omega) (show 45 ≤ a by omega)
  omega
theorem mem_listU {n : Nat} {x : Fa} : x ∈ listU n 45 ↔ ∃ a b, a < 45 ∧ b < 45 ∧ x = fa a b ∧ 1 ≤ a ∧ a * a + b * b ≤ n ∧ primeP ((a : Int), (b : Int)) = true := by
 unfold listU rowU
 simp only [List.mem_flatMap, List.mem_range, mem_gU]
 constructor
 ·rintro ⟨a, ha, b, hb, h⟩; exact ⟨a, b, ha, hb, h⟩
 ·rintro ⟨a, b, ha, hb, h⟩; exact ⟨a, ha, b, hb, h⟩
theorem mem_listD {n : Nat} {x : Fa} : x ∈ listD (n + 1) ↔ ∃ a b, a < 45 ∧ b < 45 ∧ x = fa a b ∧ 1 ≤ a ∧ a * a + b * b ≤ n ∧ primeP ((a : Int), (b : Int)) = true := by
 unfold listD rowD colD
 simp only [List.mem_flatMap, List.mem_range, mem_hD]
 constructor
 ·rintro ⟨m, hm, a, ha, b, hb, h1, h2, h3, h4, h5⟩; exact ⟨a, b, ha, hb, h1, h3, by omega, h5⟩
 ·rintro ⟨a, b, ha, hb, h1, h2, h3, h4⟩; exact ⟨a * a + b * b, by omega, a, ha, b, hb, h1, primeP_big h2 h4, h2, rfl, h4⟩
theorem nodup_listU (n : Nat) : (listU n 45).Nodup := by
 unfold listU
 refine pw_range _ _ (fun a _ => ?_) (fun a a' h _ x hx y hy e => ?_)
 ·unfold rowU
  refine pw_range _ _ (fun b _ => ?_) (fun b b' h _ x hx y hy e => ?_)
  ·unfold gU; split <;> simp
  ·have h1 := (mem_gU.1 hx).1
   have h2 := (mem_gU.1 hy).1
   have := fa_inj (h1.symm.trans (e.trans h2))
   omega
 ·unfold rowU at hx hy
  obtain ⟨b, _, hx⟩ := List.mem_flatMap.1 hx
  obtain ⟨b', _, hy⟩ := List.mem_flatMap.1 hy
  have h1 := (mem_gU.1 hx).1
  have h2 := (mem_gU.1 hy).1
  have := fa_inj (h1.symm.trans (e.trans h2))
  omega
theorem cF_lt (x y : Fa) : cF x y < 0 ↔ x.1 < y.1 ∨ (x.1 = y.1 ∧ (x.2.1 < y.2.1 ∨ (x.2.1 = y.2.1 ∧ x.2.2 < y.2.2))) := by
 rw [cF_lex, lexC_lt, lexC_lt, lexC_lt]
 have : ¬ lexC [] [] < 0 := lexC_irr []
 constructor
 ·rintro (h | ⟨h1, h | ⟨h2, h | h⟩⟩)
  ·exact .inl h
  ·exact .inr ⟨h1, .inl h⟩
  ·exact .inr ⟨h1, .inr ⟨h2, h⟩⟩
  ·exact (this h.2).elim
 ·rintro (h | ⟨h1, h | ⟨h2, h⟩⟩)
  ·exact .inl h
  ·exact .inr ⟨h1, .inl h⟩
  ·exact .inr ⟨h1, .inr ⟨h2, .inl h⟩⟩
theorem lt_listD (n : Nat) : (listD n).Pairwise (fun x y => cF x y < 0) := by
 unfold listD
 refine pw_range _ _ (fun m _ => ?_) (fun m m' h _ x hx y hy => ?_)
 ·unfold rowD
  refine pw_range _ _ (fun a _ => ?_) (fun a a' h _ x hx y hy => ?_)
  ·unfold colD
   refine pw_range _ _ (fun b _ => ?_) (fun b b' h _ x hx y hy => ?_)
   ·unfold hD; split <;> simp
   ·obtain ⟨rfl, _, _, h1, _⟩ := mem_hD.1 hx
    obtain ⟨rfl, _, _, h2, _⟩ := mem_hD.1 hy
    rw [cF_lt]; unfold fa; dsimp only
    omega
  ·unfold colD at hx hy
   obtain ⟨b, _, hx⟩ := List.mem_flatMap.1 hx
   obtain ⟨b', _, hy⟩ := List.mem_flatMap.1 hy
   obtain ⟨rfl, _, _, h1, _⟩ := mem_hD.1 hx
   obtain ⟨rfl, _, _, h2, _⟩ := mem_hD.1 hy
   rw [cF_lt]; unfold fa; dsimp only
   omega
 ·unfold rowD colD at hx hy
  obtain ⟨a, _, hx⟩ := List.mem_flatMap.1 hx
  obtain ⟨b, _, hx⟩ := List.mem_flatMap.1 hx
  obtain ⟨a', _, hy⟩ := List.mem_flatMap.1 hy
  obtain ⟨b', _, hy⟩ := List.mem_flatMap.1 hy
  obtain ⟨rfl, _, _, h1, _⟩ := mem_hD.1 hx
  obtain ⟨rfl, _, _, h2, _⟩ := mem_hD.1 hy
  rw [cF_lt]; unfold fa; dsimp only
  omega
theorem le_listD (n : Nat) : (listD n).Pairwise (fun x y => ¬ cF y x < 0) := (lt_listD n).imp (fun {x y} h => CF.asym x y h)
theorem nodup_listD (n : Nat) : (listD n).Nodup := (lt_listD n).imp (fun {x y} h e => by subst e; exact CF.irr x h)
theorem perm_UD (n : Nat) : (listU n 45).Perm (listD (n + 1)) := (List.perm_ext_iff_of_nodup (nodup_listU n) (nodup_listD _)).2 (fun x => mem_listU.trans mem_listD.symm)
theorem len_U (n a : Nat) : (listU n a).length ≤ a * 45 := by
 refine fm_len _ 45 (fun i => ?_) a
 have : (rowU n i 45).length ≤ 45 * 1 := fm_len _ 1 (fun b => by unfold gU; split <;> simp) 45
 omega
end
end Go.Proofs.YtdmfhdnpakgkpaaDoor.Sh
namespace Go.Proofs.YtdmfhdnpakgkpaaDoor.Sh
section
open Go
set_option maxRecDepth 100000
set_option maxHeartbeats 4000000
end
end Go.Proofs.YtdmfhdnpakgkpaaDoor.Sh
namespace Go.Proofs.YtdmfhdnpakgkpaaDoor.Sh
section
open Go
set_option maxRecDepth 100000
set_option maxHeartbeats 4000000
def updV (cx : Cx) (q : EqK) (m k v : Option Value) (h : SHeap) (d : List Nat) : Option (Value × SHeap × List Nat) :=
 match m, k, v with
  | some (.map (some r)), some k, some v =>
   if keyS q k then
   match h[r]? with
   | some (.map pf es) =>
    if !pf || ((cellsL k).all sc && (cellsL v).all sc) then
     match updS q k v es with
     | some es' => some (udf, h.set r (.map pf es'), dirty cx.base r pf d)
     | none => none
    else none
   | _ => none
   else none
  | _, _, _ => none
theorem E_mapUpdate (R : Rec) (cx : Cx) (e : Evl) (sl : Option Nat) (q : EqK) (m k v : Operand) (h : SHeap) (d : List Nat) : opE R cx e sl (.mapUpdate q m k v) h d = updV cx q (e m) (e k) (e v) h d := (rfl)
theorem E_makeMap (R : Rec) (cx : Cx) (e : Evl) (sl : Option Nat) (pf : Bool) (h : SHeap) (d : List Nat) : opE R cx e sl (.makeMap pf) h d = some (.map (some h.length), h ++ [.map pf []], d) := (rfl)
attribute [go_sem] E_mapUpdate E_makeMap
def ent (p : Int × Int) : Value × Value := (.agg #[.int .i64 p.1, .int .i64 p.2], .bool true)
end
end Go.Proofs.YtdmfhdnpakgkpaaDoor.Sh
namespace Go.Proofs.YtdmfhdnpakgkpaaDoor.Sh
section
open Go
set_option maxRecDepth 100000
set_option maxHeartbeats 1000000
theorem pn_two {p : Nat} (h : primeN p = true) : 2 ≤ p := (prime_iff.1 h).1
theorem pn_div {p d e : Nat} (h : primeN p = true) (he : d * e = p) : d = 1 ∨ e = 1 := by
 have h2 := pn_two h
 have key : ∀ d e : Nat, d * e = p → d ≤ e → d = 1 ∨ e = 1 := by
  intro d e he hde
  by_cases c : 2 ≤ d
  ·have h1 := (prime_iff.1 h).2 d c (by rw [← he]; exact Nat.mul_le_mul_left d hde)
   exact (h1 (by rw [← he]; exact Nat.mul_mod_right d e)).elim
  ·have : d = 0 ∨ d = 1 := by omega
   rcases this with rfl | rfl
   ·rw [Nat.zero_mul] at he; omega
   ·exact .inl rfl
 by_cases c : d ≤ e
 ·exact key d e he c
 ·rcases key e d (by rw [Nat.mul_comm]; exact he) (by omega) with k | k
  ·exact .inr k
  ·exact .inl k
theorem pn_dvd {p d : Nat} (h : primeN p = true) (hd : d ∣ p) : d = 1 ∨ d = p := by
 obtain ⟨e, rfl⟩ := hd
 rcases pn_div h rfl with k | k
 ·exact .inl k
 ·subst k; exact .inr (by rw [Nat.mul_one])
theorem pn_gcd {p : Nat} (h : primeN p = true) (a : Nat) : Nat.gcd p a = 1 ∨ p ∣ a := by
 rcases pn_dvd h (Nat.gcd_dvd_left p a) with k | k
 ·exact .inl k
 ·exact .inr (k ▸ Nat.gcd_dvd_right p a)
theorem pn_mul {p a b : Nat} (h : primeN p = true) (hd : p ∣ a * b) : p ∣ a ∨ p ∣ b := by
 rcases pn_gcd h a with k | k
 ·exact .inr (Nat.Coprime.dvd_of_dvd_mul_left k hd)
 ·exact .inl k
theorem pn_sq {p d e : Nat} (h : primeN p = true) (he : d * e = p * p) : d = 1 ∨ d = p ∨ e = 1 := by
 have h2 := pn_two h
 rcases pn_mul h (show p ∣ d * e from he ▸ Nat.dvd_mul_right p p) with k | k
 ·obtain ⟨c, rfl⟩ := k
  have : c * e = p := by
   have : p * (c * e) = p * p := by rw [← he, Nat.mul_assoc]
   exact Nat.eq_of_mul_eq_mul_left (by omega) this
  rcases pn_div h this with k | k
  ·subst k; exact .inr (.inl (Nat.mul_one p))
  ·exact .inr (.inr k)
 ·obtain ⟨c, rfl⟩ := k
  have : d * c = p := by
   have : p * (d * c) = p * p := by rw [← he]; grind
   exact Nat.eq_of_mul_eq_mul_left (by omega) this
  rcases pn_div h this with k | k
  ·exact .inl k
  ·subst k; exact .inr (.inl (by rw [← this, Nat.mul_one]))
theorem pn_41 {p : Nat} (h : primeN p = true) (h1 : p % 4 = 1) : P41 p := ⟨pn_two h, fun d e he => pn_div h he, h1⟩
theorem bez (x y : Int × Int) : ∃ g u v, g = addP (mulP u x) (mulP v y) ∧ dv g x ∧ dv g y := by
 have key : ∀ (k : Nat) (x y : Int × Int), (nrm y).toNat = k → ∃ g u v, g = addP (mulP u x) (mulP v y) ∧ dv g x ∧ dv g y := by
  intro k
  induction k using Nat.strongRecOn with
  | _ k ih =>
   intro x y hk
   by_cases h : y = (0, 0)
   ·subst h
    refine ⟨x, (1, 0), (0, 0), ?_, dv_refl x, dv_zero x⟩
    rw [one_mul, mul_zero']
    unfold addP; refine Prod.ext ?_ ?_ <;> dsimp only <;> omega
   ·have hn := nrm_pos h
    have hr := rest_nrm (x := x) hn
    have hr0 := nrm_nonneg (restP x y)
    obtain ⟨g, u, v, h1, h2, h3⟩ := ih (nrm (restP x y)).toNat (by omega) y (restP x y) rfl
    refine ⟨g, v, subP u (mulP v (quoP x y)), ?_, ?_, h2⟩
    ·rw [h1]
     unfold restP
     generalize quoP x y = q
     unfold addP mulP subP; refine Prod.ext ?_ ?_ <;> dsimp only <;> grind
    ·rw [quo_rest x y]
     exact dv_add (dv_mul h2 _) h3
 exact key _ x y rfl
theorem conj_one' {u : Int × Int} (h : nrm u = 1) : mulP (conjP u) u = (1, 0) := by rw [mul_comm', conj_one h]
def Irr (p : Int × Int) : Prop := ∀ g, dv g p → nrm g = 1 ∨ dv p g
theorem irr_mul {p x y : Int × Int} (hi : Irr p) (h : dv p (mulP x y)) : dv p x ∨ dv p y := by
 obtain ⟨g, u, v, h1, h2, h3⟩ := bez p x
 rcases hi g h2 with k | k
 ·refine .inr ?_
  have e : y = mulP (conjP g) (addP (mulP (mulP u y) p) (mulP v (mulP x y))) := by
   have : addP (mulP (mulP u y) p) (mulP v (mulP x y)) = mulP g y := by
    rw [h1]; unfold addP mulP; refine Prod.ext ?_ ?_ <;> dsimp only <;> grind
   rw [this, ← mul_assoc', conj_one' k, one_mul]
  rw [e]
  exact dv_mul (dv_add (dv_mul (dv_refl p) _) (dv_mul h _)) _
 ·exact .inl (dv_trans k h3)
theorem dv_of_nrm {g p k : Int × Int} (e : p = mulP k g) (h : nrm k = 1) : dv p g := ⟨conjP k, by rw [e, ← mul_assoc', conj_one' h, one_mul]⟩
theorem nat_nrm (p : Int × Int) : ((nrm p).toNat : Int) = nrm p := by have := nrm_nonneg p; omega
theorem irr_norm {p : Int × Int} (h : primeN (nrm p).toNat = true) : Irr p := by
 rintro g ⟨k, e⟩
 have h1 : (nrm k).toNat * (nrm g).toNat = (nrm p).toNat := by
  have := nrm_mul k g
  rw [← e] at this
  have h2 := nat_nrm k
  have h3 := nat_nrm g
  have h4 := nat_nrm p
  have : (((nrm k).toNat * (nrm g).toNat : Nat) : Int) = ((nrm p).toNat : Int) := by rw [Int.natCast_mul, h2, h3, h4, this]
  exact Int.ofNat.inj this
 have h2 := nat_nrm k
 have h3 := nat_nrm g
 rcases pn_div h h1 with c | c
 ·exact .inr (dv_of_nrm e (by omega))
 ·exact .inl (by omega)
theorem sq4 (a : Int) : a * a % 4 = 0 ∨ a * a % 4 = 1 := by
 have h : a % 4 = 0 ∨ a % 4 = 1 ∨ a % 4 = 2 ∨ a % 4 = 3 := by omega
 rw [Int.mul_emod]
 rcases h with h | h | h | h <;> rw [h] <;> decide
theorem nrm_4 (p : Int × Int) : nrm p % 4 ≠ 3 := by
 have h1 := sq4 p.1
 have h2 := sq4 p.2
 unfold nrm
 omega
theorem irr_three {p : Int × Int} {q : Nat} (hq : primeN q = true) (h4 : q % 4 = 3) (hp : nrm p = q * q) : Irr p := by
 rintro g ⟨k, e⟩
 have h2 := nat_nrm k
 have h3 := nat_nrm g
 have h1 : (nrm g).toNat * (nrm k).toNat = q * q := by
  have := nrm_mul k g
  rw [← e] at this
  have : (((nrm g).toNat * (nrm k).toNat : Nat) : Int) = ((q * q : Nat) : Int) := by rw [Int.natCast_mul, h2, h3, Int.natCast_mul, ← hp, this, Int.mul_comm]
  exact Int.ofNat.inj this
 rcases pn_sq hq h1 with c | c | c
 ·exact .inl (by omega)
 ·have := nrm_4 g; omega
 ·exact .inr (dv_of_nrm e (by omega))
theorem prime_ne {p : Int × Int} (h : primeP p = true) : 2 ≤ nrm p ∧ Irr p := by
 unfold primeP at h
 split at h
 ·rename_i c
  simp only [Bool.and_eq_true, decide_eq_true_eq] at h
  have hn : nrm p = (mxP p : Int) * (mxP p : Int) := by
   have e1 := Int.natAbs_mul_self (a := p.1)
   have e2 := Int.natAbs_mul_self (a := p.2)
   unfold nrm mxP
   rcases c with c | c
   ·rw [c] at *
    rw [show max (Int.natAbs 0) p.2.natAbs = p.2.natAbs by simp]
    omega
   ·rw [c] at *
    rw [show max p.1.natAbs (Int.natAbs 0) = p.1.natAbs by simp]
    omega
  have h2 := pn_two h.2
  refine ⟨?_, irr_three h.2 h.1 hn⟩
  rw [hn]
  have := Nat.mul_le_mul h2 h2
  have e : ((mxP p * mxP p : Nat) : Int) = (mxP p : Int) * mxP p := Int.natCast_mul _ _
  omega
 ·have h2 := pn_two h
  exact ⟨by omega, irr_norm h⟩
theorem unit_cases {u : Int × Int} (h : nrm u = 1) : u = (1, 0) ∨ u = (0, 1) ∨ u = (-1, 0) ∨ u = (0, -1) := by
 obtain ⟨a, b⟩ := u
 have hb : Bd 1 (a, b) := part_bd (by decide) (by rw [h]; decide)
 obtain ⟨h1, h2, h3, h4⟩ := hb
 dsimp only at h1 h2 h3 h4
 unfold nrm at h
 dsimp only at h
 have ha : a = -1 ∨ a = 0 ∨ a = 1 := by omega
 have hb : b = -1 ∨ b = 0 ∨ b = 1 := by omega
 rcases ha with rfl | rfl | rfl <;> rcases hb with rfl | rfl | rfl <;> first | (exfalso; revert h; decide) | simp
theorem prime_unit {p u : Int × Int} (h : nrm u = 1) : primeP (mulP p u) = primeP p := by
 have hn : nrm (mulP p u) = nrm p := by rw [nrm_mul, h, Int.mul_one]
 rcases unit_cases h with rfl | rfl | rfl | rfl
 ·rw [mul_one]
 ·unfold primeP; rw [hn]; rw [mul_i]
  have : mxP (-p.2, p.1) = mxP p := by unfold mxP; dsimp only; rw [Int.natAbs_neg, Nat.max_comm]
  rw [this]
  by_cases c : p.1 = 0 ∨ p.2 = 0
  ·rw [if_pos c, if_pos (by dsimp only; omega)]
  ·rw [if_neg c, if_neg (by dsimp only; omega)]
 ·unfold primeP; rw [hn]; rw [mul_m]
  have : mxP (-p.1, -p.2) = mxP p := by unfold mxP; dsimp only; rw [Int.natAbs_neg, Int.natAbs_neg]
  rw [this]
  by_cases c : p.1 = 0 ∨ p.2 = 0
  ·rw [if_pos c, if_pos (by dsimp only; omega)]
  ·rw [if_neg c, if_neg (by dsimp only; omega)]
 ·unfold primeP; rw [hn]; rw [mul_mi]
  have : mxP (p.2, -p.1) = mxP p := by unfold mxP; dsimp only; rw [Int.natAbs_neg, Nat.max_comm]
  rw [this]
  by_cases c : p.1 = 0 ∨ p.2 = 0
  ·rw [if_pos c, if_pos (by dsimp only; omega)]
  ·rw [if_neg c, if_neg (by dsimp only; omega)]
def overP (p : Nat) : List (Int × Int) := if p = 2 then [(1, 1)] else if p % 4 = 3 then [((p : Int), 0)] else (sqs p).flatMap fun s => [s, (s.2, s.1)]
theorem topA_high {n c : Nat} (h : 2 * c * c ≤ n) : c < topA n := by
 have hex : ∃ a, n < 2 * a * a := ⟨n + 1, by have := Nat.mul_le_mul_left (2 * (n + 1)) (show 1 ≤ n + 1 by omega); omega⟩
 have hle : topA n < n + 2 ∧ n < 2 * topA n * topA n := by
  unfold topA
  cases hf : (List.range (n + 2)).find? (fun a => decide (n < 2 * a * a)) with
  | none =>
   rw [List.find?_eq_none] at hf
   have := hf (n + 1) (by simp)
   simp only [decide_eq_true_eq] at this
   have h1 := Nat.mul_le_mul_left (2 * (n + 1)) (show 1 ≤ n + 1 by omega)
   omega
  | some x =>
   rw [List.find?_range_eq_some] at hf
   refine ⟨by simpa using hf.2.1, by simpa using hf.1⟩
 by_cases c0 : c < topA n
 ·exact c0
 ·have h1 := Nat.mul_le_mul (show 2 * topA n ≤ 2 * c by omega) (show topA n ≤ c by omega)
  omega
theorem mem_sqs {n a b : Nat} (h : a * a + b * b = n) (hab : a ≤ b) : ((a : Int), (b : Int)) ∈ sqs n := by
 unfold sqs sqL
 have h1 : a * a ≤ b * b := Nat.mul_le_mul hab hab
 have h2 : a < topA n := topA_high (by rw [Nat.mul_assoc]; omega)
 refine List.mem_flatMap.2 ⟨a, List.mem_range.2 h2, ?_⟩
 rw [sqAt_yes h]; simp
theorem sqs_form {n : Nat} {q : Int × Int} (h : q ∈ sqs n) : ∃ a b : Nat, q = ((a : Int), (b : Int)) ∧ a * a + b * b = n := by
 unfold sqs sqL at h
 obtain ⟨a, ha, hq⟩ := List.mem_flatMap.1 h
 by_cases c : ∃ b, a * a + b * b = n
 ·obtain ⟨b, hb⟩ := c
  rw [sqAt_yes hb] at hq
  exact ⟨a, b, List.mem_singleton.1 hq, hb⟩
 ·rw [sqAt_no (fun b hb => c ⟨b, hb⟩)] at hq
  cases hq
theorem nrm_nat (a b : Nat) : nrm ((a : Int), (b : Int)) = ((a * a + b * b : Nat) : Int) := by unfold nrm; simp
theorem over_prime {p : Nat} (hp : primeN p = true) {q : Int × Int} (hq : q ∈ overP p) : isF q ∧ primeP q = true ∧ (nrm q = p ∨ (p % 4 = 3 ∧ q = ((p : Int), 0) ∧ nrm q = (p : Int) * p)) := by
 have h2 := pn_two hp
 have two : ∀ a b : Nat, a * a + b * b = p → isF ((a : Int), (b : Int)) ∧ primeP ((a : Int), (b : Int)) = true ∧ nrm ((a : Int), (b : Int)) = p := by
  intro a b hab
  have ha : a ≠ 0 := by
   rintro rfl
   have := primeN_sq b
   rw [show b * b = p by omega, hp] at this
   cases this
  have hb : b ≠ 0 := by
   rintro rfl
   have := primeN_sq a
   rw [show a * a = p by omega, hp] at this
   cases this
  have hn : nrm ((a : Int), (b : Int)) = p := by rw [nrm_nat, hab]
  refine ⟨⟨by dsimp only; omega, by dsimp only; omega⟩, ?_, hn⟩
  unfold primeP
  rw [if_neg (by dsimp only; omega), hn]
  simpa using hp
 unfold overP at hq
 split at hq
 ·rename_i e
  subst e
  cases List.mem_singleton.1 hq
  exact ⟨by decide, by decide, .inl (by decide)⟩
 ·split at hq
  ·rename_i h4
   cases List.mem_singleton.1 hq
   refine ⟨⟨by dsimp only; omega, by dsimp only; omega⟩, ?_, .inr ⟨h4, rfl, by unfold nrm; simp⟩⟩
   unfold primeP
   rw [if_pos (by simp)]
   have : mxP ((p : Int), 0) = p := by unfold mxP; simp
   rw [this, hp, decide_eq_true h4]; rfl
  ·obtain ⟨s, hs, hq⟩ := List.mem_flatMap.1 hq
   obtain ⟨a, b, rfl, hab⟩ := sqs_form hs
   rcases List.mem_cons.1 hq with rfl | hq
   ·obtain ⟨k1, k2, k3⟩ := two a b hab
    exact ⟨k1, k2, .inl k3⟩
   ·cases List.mem_singleton.1 hq
    obtain ⟨k1, k2, k3⟩ := two b a (by omega)
    exact ⟨k1, k2, .inl k3⟩
theorem over_dv {p : Nat} (hp : primeN p = true) {z : Int × Int} (hz : (p : Int) ∣ nrm z) : ∃ q ∈ overP p, dv q z := by
 have h2 := pn_two hp
 have hd : dv ((p : Int), 0) (mulP z (conjP z)) := by
  obtain ⟨k, hk⟩ := hz
  rw [nrm_conj_mul, hk]
  exact ⟨(k, 0), by unfold mulP; refine Prod.ext ?_ ?_ <;> dsimp only <;> grind⟩
 have cj : ∀ {a b : Int × Int}, dv a (conjP b) → dv (conjP a) b := by
  rintro a b ⟨k, hk⟩
  refine ⟨conjP k, ?_⟩
  have := congrArg conjP hk
  rw [conj_conj] at this
  rw [this]; unfold conjP mulP; refine Prod.ext ?_ ?_ <;> dsimp only <;> grind
 unfold overP
 split
 ·rename_i e
  subst e
  refine ⟨(1, 1), by simp, ?_⟩
  have hs : (z.1 + z.2) % 2 = 0 := by
   have : nrm z % 2 = 0 := Int.emod_eq_zero_of_dvd hz
   unfold nrm at this
   have e1 : z.1 * z.1 % 2 = z.1 % 2 := by
    have : z.1 % 2 = 0 ∨ z.1 % 2 = 1 := by omega
    rw [Int.mul_emod]; rcases this with h | h <;> rw [h] <;> decide
   have e2 : z.2 * z.2 % 2 = z.2 % 2 := by
    have : z.2 % 2 = 0 ∨ z.2 % 2 = 1 := by omega
    rw [Int.mul_emod]; rcases this with h | h <;> rw [h] <;> decide
   omega
  refine ⟨((z.1 + z.2) / 2, (z.2 - z.1) / 2), ?_⟩
  unfold mulP; refine Prod.ext ?_ ?_ <;> dsimp only <;> omega
 ·rename_i hn2
  split
  ·rename_i h4
   refine ⟨((p : Int), 0), by simp, ?_⟩
   have hi : Irr ((p : Int), 0) := irr_three hp h4 (by unfold nrm; simp)
   rcases irr_mul hi hd with k | k
   ·exact k
   ·have := cj k
    unfold conjP at this
    simpa using this
  ·rename_i h4
   have hodd : p % 4 = 1 := by
    have h3 : ¬ p % 2 = 0 := fun e => by
     rcases pn_dvd hp (Nat.dvd_of_mod_eq_zero e) with k | k
     ·omega
     ·exact hn2 k.symm
    omega
   obtain ⟨a, b, hab⟩ := two_squares (pn_41 hp hodd)
   have go : ∀ a b : Nat, a ≤ b → a * a + b * b = p → ∃ q ∈ (sqs p).flatMap (fun s => [s, (s.2, s.1)]), dv q z := by
    intro a b hle hab
    have hm := mem_sqs hab hle
    have hn : nrm ((a : Int), (b : Int)) = p := by rw [nrm_nat, hab]
    have hi : Irr ((a : Int), (b : Int)) := irr_norm (by rw [hn]; simpa using hp)
    have hq : dv ((a : Int), (b : Int)) ((p : Int), 0) := ⟨((a : Int), -(b : Int)), by
     have : (p : Int) = a * a + b * b := by rw [← hab]; simp
     rw [this]; unfold mulP; refine Prod.ext ?_ ?_ <;> dsimp only <;> grind⟩
    rcases irr_mul hi (dv_trans hq hd) with k | k
    ·exact ⟨_, List.mem_flatMap.2 ⟨_, hm, by simp⟩, k⟩
    ·refine ⟨((b : Int), (a : Int)), List.mem_flatMap.2 ⟨_, hm, by simp⟩, ?_⟩
     refine dv_trans ⟨(0, -1), ?_⟩ (cj k)
     unfold conjP mulP; refine Prod.ext ?_ ?_ <;> dsimp only <;> omega
   by_cases c : a ≤ b
   ·exact go a b c hab
   ·exact go b a (by omega) (by omega)
end
end Go.Proofs.YtdmfhdnpakgkpaaDoor.Sh
namespace Go.Proofs.YtdmfhdnpakgkpaaDoor.Sh
section
open Go
set_option maxRecDepth 100000
set_option maxHeartbeats 1000000
def prodL : List (Int × Int) → Int × Int
 | [] => (1, 0)
 | p :: r => mulP p (prodL r)
theorem prodL_app : ∀ (l m : List (Int × Int)), prodL (l ++ m) = mulP (prodL l) (prodL m)
 | [], m => (one_mul _).symm
 | p :: r, m => by
  show mulP p (prodL (r ++ m)) = mulP (mulP p (prodL r)) (prodL m)
  rw [prodL_app r m, mul_assoc']
theorem prodL_perm {l m : List (Int × Int)} (h : l.Perm m) : prodL l = prodL m := by
 induction h with
 | nil => rfl
 | cons x _ ih => show mulP x _ = mulP x _; rw [ih]
 | swap x y l => show mulP y (mulP x _) = mulP x (mulP y _); rw [← mul_assoc', ← mul_assoc', mul_comm' y x]
 | trans _ _ ih1 ih2 => exact ih1.trans ih2
theorem nrm_prodL : ∀ {l : List (Int × Int)}, (∀ p ∈ l, 2 ≤ nrm p) → (2 ^ l.length : Nat) ≤ nrm (prodL l)
 | [], _ => by decide
 | p :: r, h => by
  have h1 := h p (by simp)
  have h2 := nrm_prodL (l := r) (fun q hq => h q (by simp [hq]))
  show ((2 ^ (r.length + 1) : Nat) : Int) ≤ nrm (mulP p (prodL r))
  rw [nrm_mul, Nat.pow_succ]
  have h3 : 1 ≤ 2 ^ r.length := Nat.one_le_two_pow
  generalize 2 ^ r.length = t at *
  have := Int.mul_le_mul h1 h2 (by omega) (by omega)
  omega
structure Fac (x u : Int × Int) (L : List (Int × Int)) : Prop where
 eq : x = mulP (prodL L) u
 unit : nrm u = 1
 isP : ∀ p ∈ L, isF p ∧ primeP p = true
theorem Fac.two {x u : Int × Int} {L : List (Int × Int)} (h : Fac x u L) : ∀ p ∈ L, 2 ≤ nrm p := fun p hp => (prime_ne (h.isP p hp).2).1
theorem Fac.nrm {x u : Int × Int} {L : List (Int × Int)} (h : Fac x u L) : nrm x = nrm (prodL L) := by rw [h.eq, nrm_mul, h.unit, Int.mul_one]
theorem Fac.le {x u : Int × Int} {L : List (Int × Int)} (h : Fac x u L) : (2 ^ L.length : Nat) ≤ Sh.nrm x := by rw [h.nrm]; exact nrm_prodL h.two
theorem Fac.perm {x u : Int × Int} {L M : List (Int × Int)} (h : Fac x u L) (hp : L.Perm M) : Fac x u M :=
 ⟨by rw [← prodL_perm hp]; exact h.eq, h.unit, fun p hm => h.isP p (hp.mem_iff.2 hm)⟩
theorem Fac.mul {x u y v : Int × Int} {L M : List (Int × Int)} (h : Fac x u L) (k : Fac y v M) : Fac (mulP x y) (mulP u v) (L ++ M) := by
 refine ⟨?_, by rw [nrm_mul, h.unit, k.unit]; rfl, fun p hp => ?_⟩
 ·rw [h.eq, k.eq, prodL_app]
  generalize prodL L = a
  generalize prodL M = b
  unfold mulP; refine Prod.ext ?_ ?_ <;> dsimp only <;> grind
 ·rcases List.mem_append.1 hp with hp | hp
  ·exact h.isP p hp
  ·exact k.isP p hp
theorem isF_ne {p : Int × Int} (h : isF p) : p ≠ (0, 0) := by rintro rfl; have := h.1; omega
end
end Go.Proofs.YtdmfhdnpakgkpaaDoor.Sh
namespace Go.Proofs.YtdmfhdnpakgkpaaDoor.Sh
section
open Go
set_option maxRecDepth 100000
set_option maxHeartbeats 4000000
end
end Go.Proofs.YtdmfhdnpakgkpaaDoor.Sh
namespace Go.Proofs.YtdmfhdnpakgkpaaDoor.Sh
section
open Go
set_option maxRecDepth 100000
set_option maxHeartbeats 4000000
section
variable {E : Type} {cel : E → List Value} {c : E → E → Int} {g : FuncId} {n B cap : Nat} {el : TypeId} {h0 : SHeap} {old0 : List Nat}
def InsI (c : E → E → Int) (a i j : Nat) (f : Nat → E) : Prop := (∀ p q, a ≤ p → p < q → q ≤ i → p ≠ j → q ≠ j → ¬ c (f q) (f p) < 0) ∧ ∀ q, j < q → q ≤ i → c (f j) (f q) < 0
theorem InsI.start {a i : Nat} {f : Nat → E} (h : Ord c a i f) : InsI c a i i f := ⟨fun p q h1 h2 h3 h4 h5 => h p q h1 h2 (by omega), fun q h1 h2 => by omega⟩
theorem InsI.stop (C : Cmp M g cel c) {a i j : Nat} {f : Nat → E} (h : InsI c a i j f) (h2 : j ≤ a ∨ ¬ c (f j) (f (j - 1)) < 0) : Ord c a (i + 1) f := by
 intro p q h3 h4 h5
 by_cases e1 : p = j
 ·subst e1; exact C.asym _ _ (h.2 q h4 (by omega))
 ·by_cases e2 : q = j
  ·subst e2
   rcases h2 with h2 | h2
   ·omega
   ·by_cases e3 : p = q - 1
    ·subst e3; exact h2
    ·exact C.ntr _ _ _ h2 (h.1 p (q - 1) h3 (by omega) (by omega) e1 (by omega))
  ·exact h.1 p q h3 h4 (by omega) e1 e2
theorem InsI.step {a i j : Nat} {f : Nat → E} (h : InsI c a i j f) (hj : a < j) (hji : j ≤ i) (h2 : c (f j) (f (j - 1)) < 0) : InsI c a i (j - 1) (swp f j (j - 1)) := by
 constructor
 ·intro p q h3 h4 h5 h6 h7
  by_cases e1 : p = j
  ·subst e1
   rw [swp_l, swp_o f (by omega) (by omega)]
   exact h.1 (p - 1) q (by omega) (by omega) h5 (by omega) (by omega)
  ·by_cases e2 : q = j
   ·subst e2
    rw [swp_l, swp_o f (by omega) (by omega)]
    exact h.1 p (q - 1) h3 (by omega) (by omega) (by omega) (by omega)
   ·rw [swp_o f e1 h6, swp_o f e2 h7]
    exact h.1 p q h3 h4 h5 e1 e2
 ·intro q h3 h4
  rw [swp_r]
  by_cases e : q = j
  ·subst e; rw [swp_l]; exact h2
  ·rw [swp_o f e (by omega)]; exact h.2 q (by omega) h4
theorem ins_loopF (C : Cmp M g cel c) (hl : ∀ x, (cel x).length = 3) (hc : ∀ x, (cel x).all sc = true) (hn : n ≤ 1000000) {a b i : Nat} (hb : b ≤ n) (hi : i < b) (cx : Cx) (f0 : Nat → E) : ∀ k ρ ms h' d', (∃ (j : Nat) (f : Nat → E), j = k ∧ a ≤ j ∧ j ≤ i ∧ SA cel n B el h0 old0 h' f ∧ Sw a (i + 1) f0 f ∧ InsI c a i j f ∧ ρ 0 = .slice (some ⟨B, 0, none⟩) n cap ∧ ρ 1 = .int .i64 a ∧ ρ 2 = .int .i64 b ∧ ρ 3 = .func (.func g) #[] #[] ∧ ρ 8 = .int .i64 i ∧ ρ 9 = .int .i64 j ∧ ms = [] ∧ d' = []) →
  LoopW M cx 6 sf101L0 ρ ms h' d' (fun ex ρ' ms' h' d' => ex = .exit 2 ∧ ms' = [] ∧ d' = [] ∧ ∃ f : Nat → E, SA cel n B el h0 old0 h' f ∧ Sw a (i + 1) f0 f ∧ Ord c a (i + 1) f ∧ ρ' 0 = .slice (some ⟨B, 0, none⟩) n cap ∧ ρ' 1 = .int .i64 a ∧ ρ' 2 = .int .i64 b ∧ ρ' 3 = .func (.func g) #[] #[] ∧ ρ' 8 = .int .i64 i) := by
 refine loop_run _ ?_
 rintro k ρ ms h' d' ⟨j, f, rfl, ha, hji, S, W, I, r0, r1, r2, r3, r8, r9, rfl, rfl⟩
 unfold sf101L0
 by_cases hk : j = a
 ·have e1 : ¬ ((a : Int) < j) := by omega
  repeat (first | apply Z1 | apply Z2 | apply Z3 | apply Z4 | apply Z5 rfl | apply Z6 | apply Z7 | apply Z8 | apply Z9 | apply ZA | apply ZB | apply ZC | ((first | apply ZD (by decide) | apply ZN (by decide)); (simp (maxSteps := 9999999) only [go_sem, r0, r1, r2, r3, r8, r9, e1]; rfl)) | (refine ZE ?_ ?_; · simp only [go_sem]) | (refine ZF ?_ ?_; · simp only [go_sem]))
  refine end_nil ⟨rfl, rfl, rfl, f, S, W, I.stop C (.inl (by omega)), ?_, ?_, ?_, ?_, ?_⟩
  ·simp only [go_sem, r0]
  ·simp only [go_sem, r1]
  ·simp only [go_sem, r2]
  ·simp only [go_sem, r3]
  ·simp only [go_sem, r8]
 ·have e1 : ((a : Int) < j) := by omega
  have e2 : (0 : Int) ≤ j := by omega
  have e3 : (j : Int) < n := by omega
  have e4 : (0 : Int) ≤ ((j - 1 : Nat) : Int) := by omega
  have e5 : ((j - 1 : Nat) : Int) < n := by omega
  have ew : IntKind.i64.wrap ((j : Int) - 1) = ((j - 1 : Nat) : Int) := by rw [wrap64 (by omega) (by omega)]; omega
  have l1 := S.load hl (show j < n by omega)
  have l2 := S.load hl (show j - 1 < n by omega)
  have cc := fun h => C.call (f j) (f (j - 1)) h
  by_cases hlt : c (f j) (f (j - 1)) < 0
  ·obtain ⟨h1, h2, st1, st2, S2⟩ := S.swap hl hc (by decide) (show j < n by omega) (show j - 1 < n by omega)
   repeat (first | apply Z1 | apply Z2 | apply Z3 | apply Z4 | apply Z5 rfl | apply Z6 | apply Z7 | apply Z8 | apply Z9 | apply ZA | apply ZB | apply ZC | ((first | apply ZD (by decide) | apply ZN (by decide)); (simp (maxSteps := 9999999) only [go_sem, r0, r1, r2, r3, r8, r9, e1, e2, e3, e4, e5, ew, l1, l2, cc, hlt, hl, ↓st1, ↓st2]; rfl)) | (refine ZE ?_ ?_; · simp only [go_sem]) | (refine ZF ?_ ?_; · simp only [go_sem]))
   refine end_nil ⟨j - 1, by omega, j - 1, _, rfl, by omega, by omega, S2, W.step ha (by omega) (by omega) (by omega), I.step (by omega) hji hlt, ?_, ?_, ?_, ?_, ?_, ?_, rfl, rfl⟩
   ·simp only [go_sem, r0]
   ·simp only [go_sem, r1]
   ·simp only [go_sem, r2]
   ·simp only [go_sem, r3]
   ·simp only [go_sem, r8]
   ·simp only [go_sem, ew]
  ·repeat (first | apply Z1 | apply Z2 | apply Z3 | apply Z4 | apply Z5 rfl | apply Z6 | apply Z7 | apply Z8 | apply Z9 | apply ZA | apply ZB | apply ZC | ((first | apply ZD (by decide) | apply ZN (by decide)); (simp (maxSteps := 9999999) only [go_sem, r0, r1, r2, r3, r8, r9, e1, e2, e3, e4, e5, ew, l1, l2, cc, hlt, hl]; rfl)) | (refine ZE ?_ ?_; · simp only [go_sem]) | (refine ZF ?_ ?_; · simp only [go_sem]))
   refine end_nil ⟨rfl, rfl, rfl, f, S, W, I.stop C (.inr hlt), ?_, ?_, ?_, ?_, ?_⟩
   ·simp only [go_sem, r0]
   ·simp only [go_sem, r1]
   ·simp only [go_sem, r2]
   ·simp only [go_sem, r3]
   ·simp only [go_sem, r8]
theorem insO_loopF (C : Cmp M g cel c) (hl : ∀ x, (cel x).length = 3) (hc : ∀ x, (cel x).all sc = true) (hn : n ≤ 1000000) {a b : Nat} (hb : b ≤ n) (cx : Cx) (f0 : Nat → E) : ∀ k ρ ms h' d', (∃ (i : Nat) (f : Nat → E), b - i = k ∧ a < i ∧ SA cel n B el h0 old0 h' f ∧ Sw a b f0 f ∧ Ord c a (min i b) f ∧ ρ 0 = .slice (some ⟨B, 0, none⟩) n cap ∧ ρ 1 = .int .i64 a ∧ ρ 2 = .int .i64 b ∧ ρ 3 = .func (.func g) #[] #[] ∧ ρ 8 = .int .i64 i ∧ ms = [] ∧ d' = []) →
  LoopW M cx 6 sf101L1 ρ ms h' d' (fun ex ρ' ms' h' d' => ex = .exit 0 ∧ ms' = [] ∧ d' = [] ∧ ∃ f : Nat → E, SA cel n B el h0 old0 h' f ∧ Sw a b f0 f ∧ Ord c a b f) := by
 refine loop_run _ ?_
 rintro k ρ ms h' d' ⟨i, f, hk, ha, S, W, O, r0, r1, r2, r3, r8, rfl, rfl⟩
 unfold sf101L1
 by_cases hib : i < b
 ·have e1 : (i : Int) < b := by omega
  have ew : IntKind.i64.wrap ((i : Int) + 1) = ((i + 1 : Nat) : Int) := by rw [wrap64 (by omega) (by omega)]; rfl
  rw [Nat.min_eq_left (by omega)] at O
  repeat (first | apply Z1 | apply Z2 | apply Z3 | apply Z4 | apply Z5 rfl | apply Z6 | apply Z7 | apply Z8 | apply Z9 | apply ZA | apply ZB | apply ZC | ((first | apply ZD (by decide) | apply ZN (by decide)); (simp (maxSteps := 9999999) only [go_sem, r0, r1, r2, r3, r8, e1]; rfl)) | (refine ZE ?_ ?_; · simp only [go_sem]) | (refine ZF ?_ ?_; · simp only [go_sem]))
  refine run_loop (ins_loopF (cap := cap) C hl hc hn hb hib cx f i _ _ _ _ ⟨i, f, rfl, by omega, by omega, S, .refl, InsI.start O, ?_, ?_, ?_, ?_, ?_, ?_, rfl, rfl⟩) ?_
  ·simp only [go_sem, r0]
  ·simp only [go_sem, r1]
  ·simp only [go_sem, r2]
  ·simp only [go_sem, r3]
  ·simp only [go_sem, r8]
  ·simp only [go_sem]
  rintro ex ρ' ms' h1 d1 ⟨rfl, rfl, rfl, f2, S2, W2, O2, k0, k1, k2, k3, k8⟩
  repeat (first | apply Z1 | apply Z2 | apply Z3 | apply Z4 | apply Z5 rfl | apply Z6 | apply Z7 | apply Z8 | apply Z9 | apply ZA | apply ZB | apply ZC | ((first | apply ZD (by decide) | apply ZN (by decide)); (simp (maxSteps := 9999999) only [go_sem, k0, k1, k2, k3, k8, ew]; rfl)) | (refine ZE ?_ ?_; · simp only [go_sem]) | (refine ZF ?_ ?_; · simp only [go_sem]))
  refine end_nil ⟨b - (i + 1), by omega, i + 1, f2, rfl, by omega, S2, W.trans (W2.mono (by omega) (by omega)), by rw [Nat.min_eq_left (by omega)]; exact O2, ?_, ?_, ?_, ?_, ?_, rfl, rfl⟩
  ·simp only [go_sem, k0]
  ·simp only [go_sem, k1]
  ·simp only [go_sem, k2]
  ·simp only [go_sem, k3]
  ·simp only [go_sem, ew]
 ·have e1 : ¬ (i : Int) < b := by omega
  repeat (first | apply Z1 | apply Z2 | apply Z3 | apply Z4 | apply Z5 rfl | apply Z6 | apply Z7 | apply Z8 | apply Z9 | apply ZA | apply ZB | apply ZC | ((first | apply ZD (by decide) | apply ZN (by decide)); (simp (maxSteps := 9999999) only [go_sem, r0, r1, r2, r3, r8, e1]; rfl)) | (refine ZE ?_ ?_; · simp only [go_sem]) | (refine ZF ?_ ?_; · simp only [go_sem]))
  exact end_nil ⟨rfl, rfl, rfl, f, S, W, by rw [Nat.min_eq_right (by omega)] at O; exact O⟩
theorem insF (C : Cmp M g cel c) (hl : ∀ x, (cel x).length = 3) (hc : ∀ x, (cel x).all sc = true) (hn : n ≤ 1000000) {a b : Nat} (hab : a ≤ b) (hb : b ≤ n) {h : SHeap} {f : Nat → E} (S : SA cel n B el h0 old0 h f) :
  ∃ h' f', M.call 101 [.slice (some ⟨B, 0, none⟩) n cap, .int .i64 a, .int .i64 b, .func (.func g) #[] #[]] h = some (.tuple #[], h', []) ∧ SA cel n B el h0 old0 h' f' ∧ Sw a b f f' ∧ Ord c a b f' := by
 have key : ∃ r, (∃ h' f', r = (Value.tuple #[], h', ([] : List Nat)) ∧ SA cel n B el h0 old0 h' f' ∧ Sw a b f f' ∧ Ord c a b f') ∧ M.call 101 [.slice (some ⟨B, 0, none⟩) n cap, .int .i64 a, .int .i64 b, .func (.func g) #[] #[]] h = some r := by
  refine call_ex (f := 101) _ sf101 rfl rfl rfl ?_
  unfold sf101
  have ew : IntKind.i64.wrap ((a : Int) + 1) = ((a + 1 : Nat) : Int) := by rw [wrap64 (by omega) (by omega)]; rfl
  repeat (first | apply Z1 | apply Z2 | apply Z3 | apply Z4 | apply Z5 rfl | apply Z6 | apply Z7 | apply Z8 | apply Z9 | apply ZA | apply ZB | apply ZC | ((first | apply ZD (by decide) | apply ZN (by decide)); (simp (maxSteps := 9999999) only [go_sem, argR, ew]; rfl)) | (refine ZE ?_ ?_; · simp only [go_sem]) | (refine ZF ?_ ?_; · simp only [go_sem]))
  refine run_loop (insO_loopF (a := a) (b := b) (cap := cap) (el := el) (h0 := h0) (old0 := old0) C hl hc hn hb _ f (b - (a + 1)) _ _ _ _ ⟨a + 1, f, rfl, by omega, S, .refl, Ord.nil c (by omega) f, ?_, ?_, ?_, ?_, ?_, rfl, rfl⟩) ?_
  ·simp only [go_sem, argR]
  ·simp only [go_sem, argR]
  ·simp only [go_sem, argR]
  ·simp only [go_sem, argR]
  ·simp only [go_sem, ew]
  rintro ex ρ' ms' h1 d1 ⟨rfl, rfl, rfl, f2, S2, W2, O2⟩
  repeat (first | apply Z1 | apply Z2 | apply Z3 | apply Z4 | apply Z5 rfl | apply Z6 | apply Z7 | apply Z8 | apply Z9 | apply ZA | apply ZB | apply ZC | ((first | apply ZD (by decide) | apply ZN (by decide)); (simp (maxSteps := 9999999) only [go_sem]; rfl)) | (refine ZE ?_ ?_; · simp only [go_sem]) | (refine ZF ?_ ?_; · simp only [go_sem]))
  exact end_nil ⟨_, ⟨h1, f2, rfl, S2, W2, O2⟩, q_free [] rfl rfl rfl rfl (fun _ => rfl) (by rw [List.take_of_length_le]; rw [S2.len, S.len]; exact Nat.le_refl _) rfl⟩
 obtain ⟨r, ⟨h', f', rfl, k⟩, e⟩ := key
 exact ⟨h', f', e, k⟩
end
end
end Go.Proofs.YtdmfhdnpakgkpaaDoor.Sh
