/- Lean of the program and of the document. -/
import Derived.Test.YtecncmmkghmojaaXr
set_option linter.all false
namespace Go.Proofs.Ytecncmmkghmojaa.Sh
open Go Geo
set_option maxRecDepth 100000

theorem q_ptrInt {base i j : Nat} {ρ : Reg} {h h' : SHeap} {a : Option Addr} {k : IntKind} {z : Int} {r : Value} (hv : ρ i = .pointer a) (hw : ρ j = .int k z) (hg : gcS base (.tuple #[.pointer a, .int k z]) h = some (r, h')) : callQ [.tmp i, .tmp j] base (r, h', []) .ret ρ [] h [] := by
  refine ⟨rfl, ?_⟩
  show opn (ρ i) fun a => opn (ρ j) fun b => endW base h [] (r, h', []) [a, b]
  rw [hv, hw]
  exact ⟨_, _, hg, rfl⟩
/-- a whole call of openSide -/
theorem openSide66 {h : SHeap} {v : Value} {l : List (Int × Int)} (hv : PS h v l) (T : Tame l) {i : Nat} (hi : i < l.length) : M.call 66 [v, .int .i64 i] h = some (.tuple #[.pointer (some ⟨h.length, 0, none⟩), .int .i64 0], opened h l, []) := by
  have c62 := open62' hv T
  have hb := opened_body h l
  have e1 : ¬ ((i : Int) < 0) := by omega
  have e2 : ¬ ((l.length : Int) ≤ i) := by omega
  have hg : gcS h.length (.tuple #[.pointer (some ⟨h.length, 0, none⟩), .int .i64 0]) (opened h l) = some (.tuple #[.pointer (some ⟨h.length, 0, none⟩), .int .i64 0], opened h l) := by
    have := gc_body (base := h.length) (i := h.length) (cb := h.length + 1) (cs := prs l) (old := []) hb.1 (by unfold opened; rw [app_get]; rfl) (Nat.le_refl _) (by omega) (by omega) (fun c hc => by simp at hc)
    rw [this, opened_take]; rfl
  obtain ⟨va, vc, rfl, -⟩ := hv
  refine call_run sf66 rfl rfl rfl ?_
  unfold sf66
  repeat (first | apply run_seq | apply run_block | apply end_seq | apply end_blk_hit | apply end_blk_miss rfl | apply end_blk | apply end_seq_exit | apply end_seq_ret | apply end_blk_ret | apply run_skip | apply run_ret | apply run_exit | (apply run_region (by decide); (simp only [go_sem, ↓reduceIte, Int.reduceAdd, Int.reduceEq, Int.reduceLE, Int.reduceLT, Int.reduceMul, Int.reduceNeg, Int.reduceSub, Int.reduceToNat, Nat.reduceAdd, Nat.reduceBEq, Nat.reduceEqDiff, Nat.reduceLT, Nat.reduceLeDiff, Nat.reduceMul, Nat.reduceSub, argR, c62, e1, e2]; rfl)) | (refine run_cond_t ?_ ?_; · simp only [go_sem, ↓reduceIte, Nat.reduceEqDiff]) | (refine run_cond_f ?_ ?_; · simp only [go_sem, ↓reduceIte, Nat.reduceEqDiff]))
  exact end_nil (q_ptrInt (by simp only [go_sem, ↓reduceIte, Int.reduceAdd, Int.reduceEq, Int.reduceLE, Int.reduceLT, Int.reduceMul, Int.reduceNeg, Int.reduceSub, Int.reduceToNat, Nat.reduceAdd, Nat.reduceBEq, Nat.reduceEqDiff, Nat.reduceLT, Nat.reduceLeDiff, Nat.reduceMul, Nat.reduceSub]) (by simp only [go_sem, ↓reduceIte, Int.reduceAdd, Int.reduceEq, Int.reduceLE, Int.reduceLT, Int.reduceMul, Int.reduceNeg, Int.reduceSub, Int.reduceToNat, Nat.reduceAdd, Nat.reduceBEq, Nat.reduceEqDiff, Nat.reduceLT, Nat.reduceLeDiff, Nat.reduceMul, Nat.reduceSub]) hg)

def lenZ (l : List (Int × Int)) (i : Nat) : Int := dotp (sbt (cn l ((i + 1) % l.length)) (cn l i)) (sbt (cn l ((i + 1) % l.length)) (cn l i))
theorem lenZ_le {l : List (Int × Int)} (T : Tame l) (i : Nat) : lenZ l i ≤ 3200 := by
  have a := inR_getD T.inr i
  have b := inR_getD T.inr ((i + 1) % l.length)
  have hp : inR (cn l i) := a
  have hq : inR (cn l ((i + 1) % l.length)) := b
  unfold lenZ
  generalize cn l ((i + 1) % l.length) = q at *
  generalize cn l i = p at *
  obtain ⟨a1, a2, a3, a4⟩ := hp
  obtain ⟨b1, b2, b3, b4⟩ := hq
  have m1 : ((q.1 - p.1) * (q.1 - p.1)).natAbs ≤ 40 * 40 := mul_bound (by omega) (by omega)
  have m2 : ((q.2 - p.2) * (q.2 - p.2)).natAbs ≤ 40 * 40 := mul_bound (by omega) (by omega)
  simp only [dotp, sbt]
  omega
theorem lenZ_pos {l : List (Int × Int)} (T : Tame l) {i : Nat} (hi : i < l.length) : 0 < lenZ l i := by
  have ho := T.off_pos hi
  unfold offZ at ho
  unfold lenZ
  generalize sbt (cn l ((i + 1) % l.length)) (cn l i) = U at *
  have h1 : 0 ≤ U.1 * U.1 := Geo.sq_nonneg _
  have h2 : 0 ≤ U.2 * U.2 := Geo.sq_nonneg _
  have : dotp U U = U.1 * U.1 + U.2 * U.2 := rfl
  by_cases e : dotp U U = 0
  · have e1 : U.1 = 0 := Geo.sq_zero (by omega)
    have e2 : U.2 = 0 := Geo.sq_zero (by omega)
    simp only [crs, e1, e2] at ho
    omega
  · omega
/-- the lean, before it is in lowest terms -/
def lnA (l : List (Int × Int)) (i : Nat) : Int := offZ l i * offZ l i
def lnB (l : List (Int × Int)) (i : Nat) : Int := mD l * mD l * lenZ l i
def lnG (l : List (Int × Int)) (i : Nat) : Nat := Int.gcd (lnA l i) (lnB l i)

theorem sbt_in {p q : Int × Int} (hp : inR p) (hq : inR q) : sm (sbt q p) := by
  obtain ⟨a1, a2, a3, a4⟩ := hp
  obtain ⟨b1, b2, b3, b4⟩ := hq
  exact ⟨by simp only [sbt]; omega, by simp only [sbt]; omega⟩
theorem sbt_mid {X Y D : Int} (F : Fine X Y D) {p : Int × Int} (hp : inR p) : sm (sbt (X, Y) (D * p.1, D * p.2)) := by
  have hm := inR_mul F.d hp
  have := F.x
  have := F.y
  exact ⟨by simp only [sbt]; omega, by simp only [sbt]; omega⟩

/-- off -/
theorem off81 {h : SHeap} {b cb c : Nat} {l : List (Int × Int)} (hb : Body h b cb c l (mX l) (mY l) (mD l)) (T : Tame l) {i : Nat} (hi : i < l.length) :
    M.call 81 [.pointer (some ⟨b, 0, none⟩), .int .i64 i] h = some (.int .i64 (offZ l i), h, []) := by
  have c67 := ends67 hb T.hi hi
  have hp : inR (cn l i) := inR_getD T.inr i
  have hq : inR (cn l ((i + 1) % l.length)) := inR_getD T.inr ((i + 1) % l.length)
  have F := T.fine
  unfold offZ
  generalize mX l = X at *
  generalize mY l = Y at *
  generalize mD l = D at *
  generalize (i + 1) % l.length = a at *
  generalize cn l i = p at *
  generalize cn l a = q at *
  have m1 := fun e => (hb.app e).loadM
  have m2 := fun e => (hb.app e).loadD
  have hm := inR_mul F.d hp
  have hx := F.x
  have hy := F.y
  have hd := F.d
  have c103 := fun h => times103 D p h (inR_sm hp) (by omega)
  have c80 := fun h => minus80 (X, Y) (D * p.1, D * p.2) h ⟨by simp only; omega, by simp only; omega⟩ ⟨by simp only; omega, by simp only; omega⟩
  have c80' := fun h => minus80 q p h (inR_sm hq) (inR_sm hp)
  have c95 := fun h => cross95 (sbt q p) (sbt (X, Y) (D * p.1, D * p.2)) h (sbt_in hp hq) (sbt_mid F hp)
  dsimp only at c80
  refine call_run sf81 rfl rfl rfl ?_
  unfold sf81
  repeat (first | apply run_seq | apply run_block | apply end_seq | apply end_blk_hit | apply end_blk_miss rfl | apply end_blk | apply end_seq_exit | apply end_seq_ret | apply end_blk_ret | apply run_skip | apply run_ret | apply run_exit | (apply run_region (by decide); (simp only [go_sem, ↓reduceIte, Int.reduceAdd, Int.reduceEq, Int.reduceLE, Int.reduceLT, Int.reduceMul, Int.reduceNeg, Int.reduceSub, Int.reduceToNat, Nat.reduceAdd, Nat.reduceBEq, Nat.reduceEqDiff, Nat.reduceLT, Nat.reduceLeDiff, Nat.reduceMul, Nat.reduceSub, argR, c67, m1, m2, c103, c80, c80', c95]; rfl)) | (refine run_cond_t ?_ ?_; · simp only [go_sem, ↓reduceIte, Nat.reduceEqDiff]) | (refine run_cond_f ?_ ?_; · simp only [go_sem, ↓reduceIte, Nat.reduceEqDiff]))
  exact end_nil (q_ret1 _ (by simp only [go_sem, ↓reduceIte, Int.reduceAdd, Int.reduceEq, Int.reduceLE, Int.reduceLT, Int.reduceMul, Int.reduceNeg, Int.reduceSub, Int.reduceToNat, Nat.reduceAdd, Nat.reduceBEq, Nat.reduceEqDiff, Nat.reduceLT, Nat.reduceLeDiff, Nat.reduceMul, Nat.reduceSub]) rfl (take_app _ _))

theorem ln_bounds {l : List (Int × Int)} (T : Tame l) {i : Nat} (hi : i < l.length) : 0 < lnA l i ∧ lnA l i ≤ 943718400000000 ∧ 0 < lnB l i ∧ lnB l i ≤ 2654208000000 ∧ 0 < mD l * mD l ∧ mD l * mD l ≤ 829440000 := by
  have o1 := T.off_pos hi
  have o2 := T.off_le hi
  have l1 := lenZ_pos T hi
  have l2 := lenZ_le T i
  have d1 := mD_pos T
  have d2 := T.fine.d
  unfold lnA lnB
  have m1 : (offZ l i * offZ l i).natAbs ≤ 30720000 * 30720000 := mul_bound (by omega) (by omega)
  have m2 : (mD l * mD l).natAbs ≤ 28800 * 28800 := mul_bound d2 d2
  have m3 : (mD l * mD l * lenZ l i).natAbs ≤ 28800 * 28800 * 3200 := mul_bound m2 (by omega)
  have p1 := Int.mul_pos o1 o1
  have p2 := Int.mul_pos d1 d1
  have p3 := Int.mul_pos p2 l1
  omega

/-- lean -/
theorem lean72 {h : SHeap} {b cb c : Nat} {l : List (Int × Int)} (hb : Body h b cb c l (mX l) (mY l) (mD l)) (T : Tame l) {i : Nat} (hi : i < l.length) :
    M.call 72 [.pointer (some ⟨b, 0, none⟩), .int .i64 i] h = some (.agg #[.int .i64 ((lnA l i).tdiv (lnG l i)), .int .i64 ((lnB l i).tdiv (lnG l i))], h, []) := by
  have hbe : ∀ e, Body (h ++ e) b cb c l (mX l) (mY l) (mD l) := fun e => hb.app e
  have c67 := fun e => ends67 (hbe e) T.hi hi
  have c81 := fun e => off81 (hbe e) T hi
  have hp : inR (cn l i) := inR_getD T.inr i
  have hq : inR (cn l ((i + 1) % l.length)) := inR_getD T.inr ((i + 1) % l.length)
  have m2 := fun e => (hbe e).loadD
  have bd := ln_bounds T hi
  have hlz := lenZ_le T i
  have hlp := lenZ_pos T hi
  have hol := T.off_le hi
  have hop := T.off_pos hi
  have hG : lnG l i ≠ 0 := by
    unfold lnG
    intro e
    have := Int.eq_zero_of_gcd_eq_zero_right e
    omega
  have c65 := fun e => lowest (lnA l i) (lnB l i) e (by omega) (by omega) hG
  have c82 : ∀ e, M.call 82 [.agg #[.int .i64 (sbt (cn l ((i + 1) % l.length)) (cn l i)).1, .int .i64 (sbt (cn l ((i + 1) % l.length)) (cn l i)).2], .agg #[.int .i64 (sbt (cn l ((i + 1) % l.length)) (cn l i)).1, .int .i64 (sbt (cn l ((i + 1) % l.length)) (cn l i)).2]] e = some (.int .i64 (lenZ l i), e, []) := fun e => dot82 _ _ e (sbt_in hp hq) (sbt_in hp hq)
  have c80' := fun h => minus80 (cn l ((i + 1) % l.length)) (cn l i) h (inR_sm hq) (inR_sm hp)
  have w1 : IntKind.i64.wrap (offZ l i * offZ l i) = lnA l i := wrap_abs (by have : offZ l i * offZ l i = lnA l i := rfl; omega)
  have w2 : IntKind.i64.wrap (mD l * mD l) = mD l * mD l := wrap_abs (by omega)
  have w3 : IntKind.i64.wrap (mD l * mD l * lenZ l i) = lnB l i := wrap_abs (by have : mD l * mD l * lenZ l i = lnB l i := rfl; omega)
  change ∀ e, M.call 65 _ e = some (.agg #[.int .i64 ((lnA l i).tdiv (lnG l i)), .int .i64 ((lnB l i).tdiv (lnG l i))], e, []) at c65
  generalize lnA l i = A at *
  generalize lnB l i = B at *
  generalize lnG l i = G at *
  generalize sbt (cn l ((i + 1) % l.length)) (cn l i) = U at *
  generalize (i + 1) % l.length = a at *
  generalize cn l i = p at *
  generalize cn l a = q at *
  refine call_run sf72 rfl rfl rfl ?_
  unfold sf72
  repeat (first | apply run_seq | apply run_block | apply end_seq | apply end_blk_hit | apply end_blk_miss rfl | apply end_blk | apply end_seq_exit | apply end_seq_ret | apply end_blk_ret | apply run_skip | apply run_ret | apply run_exit | (apply run_region (by decide); (simp only [go_sem, ↓reduceIte, Int.reduceAdd, Int.reduceEq, Int.reduceLE, Int.reduceLT, Int.reduceMul, Int.reduceNeg, Int.reduceSub, Int.reduceToNat, Nat.reduceAdd, Nat.reduceBEq, Nat.reduceEqDiff, Nat.reduceLT, Nat.reduceLeDiff, Nat.reduceMul, Nat.reduceSub, argR, c67, c81, c65, c82, c80', m2, w1, w2, w3]; rfl)) | (refine run_cond_t ?_ ?_; · simp only [go_sem, ↓reduceIte, Nat.reduceEqDiff]) | (refine run_cond_f ?_ ?_; · simp only [go_sem, ↓reduceIte, Nat.reduceEqDiff]))
  refine end_nil (q_cell [.int .i64 (A.tdiv G), .int .i64 (B.tdiv G)] ?_ rfl ⟨some ⟨h.length, 0, none⟩, by simp only [go_sem, ↓reduceIte, Int.reduceAdd, Int.reduceEq, Int.reduceLE, Int.reduceLT, Int.reduceMul, Int.reduceNeg, Int.reduceSub, Int.reduceToNat, Nat.reduceAdd, Nat.reduceBEq, Nat.reduceEqDiff, Nat.reduceLT, Nat.reduceLeDiff, Nat.reduceMul, Nat.reduceSub]⟩ (take_app _ _))
  simp only [go_sem, ↓reduceIte, Int.reduceAdd, Int.reduceEq, Int.reduceLE, Int.reduceLT, Int.reduceMul, Int.reduceNeg, Int.reduceSub, Int.reduceToNat, Nat.reduceAdd, Nat.reduceBEq, Nat.reduceEqDiff, Nat.reduceLT, Nat.reduceLeDiff, Nat.reduceMul, Nat.reduceSub]

/-- Lean -/
theorem lean29 {h : SHeap} {v : Value} {l : List (Int × Int)} (hv : PS h v l) (T : Tame l) {i : Nat} (hi : i < l.length) :
    M.call 29 [v, .int .i64 i] h = some (.tuple #[.agg #[.int .i64 ((lnA l i).tdiv (lnG l i)), .int .i64 ((lnB l i).tdiv (lnG l i))], .int .i64 0], h, []) := by
  have hv1 := hv.app [SO.cells [.int .i64 0, .int .i64 0] 34 true 0 []]
  have c66 := openSide66 hv1 T hi
  have hb := opened_body (h ++ [SO.cells [.int .i64 0, .int .i64 0] 34 true 0 []]) l
  have c72 := lean72 hb T hi
  have ho : opened (h ++ [SO.cells [.int .i64 0, .int .i64 0] 34 true 0 []]) l = h ++ [.cells [.int .i64 0, .int .i64 0] 34 true 0 [], .cells [.slice (some ⟨h.length + 2, 0, none⟩) l.length (UNK + 2), .int .i64 (mX l), .int .i64 (mY l), .int .i64 (mD l)] 79 false 0 [], .cells (prs l) 77 true 0 []] := by
    unfold opened; simp
  have hl : (h ++ [SO.cells [.int .i64 0, .int .i64 0] 34 true 0 []]).length = h.length + 1 := by simp
  rw [hl, ho] at c66 c72
  obtain ⟨va, vc, rfl, -⟩ := hv
  generalize (lnA l i).tdiv (lnG l i) = A at *
  generalize (lnB l i).tdiv (lnG l i) = B at *
  refine call_run sf29 rfl rfl rfl ?_
  unfold sf29
  repeat (first | apply run_seq | apply run_block | apply end_seq | apply end_blk_hit | apply end_blk_miss rfl | apply end_blk | apply end_seq_exit | apply end_seq_ret | apply end_blk_ret | apply run_skip | apply run_ret | apply run_exit | (apply run_region (by decide); (simp only [go_sem, ↓reduceIte, Int.reduceAdd, Int.reduceEq, Int.reduceLE, Int.reduceLT, Int.reduceMul, Int.reduceNeg, Int.reduceSub, Int.reduceToNat, Nat.reduceAdd, Nat.reduceBEq, Nat.reduceEqDiff, Nat.reduceLT, Nat.reduceLeDiff, Nat.reduceMul, Nat.reduceSub, argR, c66, c72]; rfl)) | (refine run_cond_t ?_ ?_; · simp only [go_sem, ↓reduceIte, Nat.reduceEqDiff]) | (refine run_cond_f ?_ ?_; · simp only [go_sem, ↓reduceIte, Nat.reduceEqDiff]))
  refine end_nil (q_cell_tmp (FT := FT) (n := 2) [.int .i64 A, .int .i64 B] _ ?_ (by simp only [go_sem, ↓reduceIte, Int.reduceAdd, Int.reduceEq, Int.reduceLE, Int.reduceLT, Int.reduceMul, Int.reduceNeg, Int.reduceSub, Int.reduceToNat, Nat.reduceAdd, Nat.reduceBEq, Nat.reduceEqDiff, Nat.reduceLT, Nat.reduceLeDiff, Nat.reduceMul, Nat.reduceSub]) rfl rfl ⟨some ⟨h.length, 0, none⟩, by simp only [go_sem, ↓reduceIte, Int.reduceAdd, Int.reduceEq, Int.reduceLE, Int.reduceLT, Int.reduceMul, Int.reduceNeg, Int.reduceSub, Int.reduceToNat, Nat.reduceAdd, Nat.reduceBEq, Nat.reduceEqDiff, Nat.reduceLT, Nat.reduceLeDiff, Nat.reduceMul, Nat.reduceSub]⟩ (take_app _ _))
  simp only [go_sem, ↓reduceIte, Int.reduceAdd, Int.reduceEq, Int.reduceLE, Int.reduceLT, Int.reduceMul, Int.reduceNeg, Int.reduceSub, Int.reduceToNat, Nat.reduceAdd, Nat.reduceBEq, Nat.reduceEqDiff, Nat.reduceLT, Nat.reduceLeDiff, Nat.reduceMul, Nat.reduceSub]
end Go.Proofs.Ytecncmmkghmojaa.Sh

