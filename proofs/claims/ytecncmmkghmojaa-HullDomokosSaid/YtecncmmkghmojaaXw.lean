/- Lowest of the program and of the document; the law of the rolls. -/
import Derived.Test.YtecncmmkghmojaaXv
set_option linter.all false
namespace Go.Proofs.Ytecncmmkghmojaa.Sh
open Go Geo
set_option maxRecDepth 100000

/-- the side with the least lean, of the first k -/
def lowF (l : List (Int × Int)) : Nat → Nat
  | 0 => 0
  | k + 1 => if k = 0 then 0 else if lnLt l k (lowF l k) then k else lowF l k
theorem lowF_lt {l : List (Int × Int)} (h : 0 < l.length) : ∀ k, k ≤ l.length → lowF l k < l.length
  | 0, _ => h
  | k + 1, hk => by
    unfold lowF
    split
    · exact h
    · split
      · omega
      · exact lowF_lt h k (by omega)
theorem lowF_one (l : List (Int × Int)) : lowF l 1 = 0 := by unfold lowF; simp
theorem lowF_pos {l : List (Int × Int)} {k : Nat} (hk : k ≠ 0) (h : lnLt l k (lowF l k)) : lowF l (k + 1) = k := by rw [lowF, if_neg hk, if_pos h]
theorem lowF_neg {l : List (Int × Int)} {k : Nat} (hk : k ≠ 0) (h : ¬ lnLt l k (lowF l k)) : lowF l (k + 1) = lowF l k := by rw [lowF, if_neg hk, if_neg h]

theorem lowest_loop (cx : Cx) {H : SHeap} {b cb c : Nat} {l : List (Int × Int)} (hb : Body H b cb c l (mX l) (mY l) (mD l)) (T : Tame l) :
    ∀ k ρ ms h' d', (∃ i : Nat, i + k = l.length ∧ ρ 4 = .pointer (some ⟨b, 0, none⟩) ∧ ρ 6 = .int .i64 (lowF l i) ∧ ρ 7 = .int .i64 (if i = 0 then 0 else offZ l (lowF l i)) ∧ ρ 8 = .int .i64 (if i = 0 then 0 else lenZ l (lowF l i)) ∧ ρ 27 = .int .i64 l.length ∧ ρ 28 = .int .i64 i ∧ Ext H h' ∧ ms = [] ∧ d' = []) →
    LoopW M cx 7 sf42L0 ρ ms h' d' (fun ex ρ' ms' h' d' => ex = .exit 0 ∧ ρ' 6 = .int .i64 (lowF l l.length) ∧ Ext H h' ∧ ms' = [] ∧ d' = []) := by
  have hn := T.hi
  refine loop_run _ ?_
  rintro k ρ ms h' d' ⟨i, hi, h4, h6, h7, h8, h27, h28, E, rfl, rfl⟩
  unfold sf42L0
  by_cases hk : k = 0
  · have e1 : ¬ ((i : Int) < l.length) := by omega
    have ei : i = l.length := by omega
    repeat (first | apply run_seq | apply run_block | apply end_seq | apply end_blk_hit | apply end_blk_miss rfl | apply end_blk | apply end_seq_exit | apply end_seq_ret | apply end_blk_ret | apply run_skip | apply run_ret | apply run_exit | (apply run_region (by decide); (simp only [go_sem, ↓reduceIte, Int.reduceAdd, Int.reduceEq, Int.reduceLE, Int.reduceLT, Int.reduceMul, Int.reduceNeg, Int.reduceSub, Int.reduceToNat, Nat.reduceAdd, Nat.reduceBEq, Nat.reduceEqDiff, Nat.reduceLT, Nat.reduceLeDiff, Nat.reduceMul, Nat.reduceSub, h27, h28, e1]; rfl)) | (refine run_cond_t ?_ ?_; · simp only [go_sem, ↓reduceIte, Nat.reduceEqDiff]) | (refine run_cond_f ?_ ?_; · simp only [go_sem, ↓reduceIte, Nat.reduceEqDiff]))
    refine end_nil ⟨rfl, ?_, E, rfl, rfl⟩
    simp only [go_sem, ↓reduceIte, Int.reduceAdd, Int.reduceEq, Int.reduceLE, Int.reduceLT, Int.reduceMul, Int.reduceNeg, Int.reduceSub, Int.reduceToNat, Nat.reduceAdd, Nat.reduceBEq, Nat.reduceEqDiff, Nat.reduceLT, Nat.reduceLeDiff, Nat.reduceMul, Nat.reduceSub, h6]; rw [ei]
  · have e1 : (i : Int) < l.length := by omega
    have hil : i < l.length := by omega
    have ew : IntKind.i64.wrap ((i : Int) + 1) = ((i + 1 : Nat) : Int) := by rw [wrap64 (by omega) (by omega)]; rfl
    have hbb : Body h' b cb c l (mX l) (mY l) (mD l) := by obtain ⟨g, rfl⟩ := E; exact hb.app g
    have c67 := ends67 hbb hn hil
    have c81 := fun e => off81 (hbb.app e) T hil
    have hp : inR (cn l i) := inR_getD T.inr i
    have hq : inR (cn l ((i + 1) % l.length)) := inR_getD T.inr ((i + 1) % l.length)
    have c82 : ∀ e, M.call 82 [.agg #[.int .i64 (sbt (cn l ((i + 1) % l.length)) (cn l i)).1, .int .i64 (sbt (cn l ((i + 1) % l.length)) (cn l i)).2], .agg #[.int .i64 (sbt (cn l ((i + 1) % l.length)) (cn l i)).1, .int .i64 (sbt (cn l ((i + 1) % l.length)) (cn l i)).2]] e = some (.int .i64 (lenZ l i), e, []) := fun e => dot82 _ _ e (sbt_in hp hq) (sbt_in hp hq)
    have c80 := fun h => minus80 (cn l ((i + 1) % l.length)) (cn l i) h (inR_sm hq) (inR_sm hp)
    have bi := lowF_lt (l := l) (by omega) i (by omega)
    have o1 := T.off_pos hil
    have o2 := T.off_le hil
    have l1 := lenZ_pos T hil
    have l2 := lenZ_le T i
    have o3 := T.off_pos bi
    have o4 := T.off_le bi
    have l3 := lenZ_pos T bi
    have l4 := lenZ_le T (lowF l i)
    have m1 : (offZ l i * offZ l i).natAbs ≤ 30720000 * 30720000 := mul_bound (by omega) (by omega)
    have m2 : (offZ l (lowF l i) * offZ l (lowF l i)).natAbs ≤ 30720000 * 30720000 := mul_bound (by omega) (by omega)
    have m3 : (offZ l i * offZ l i * lenZ l (lowF l i)).natAbs ≤ 30720000 * 30720000 * 3200 := mul_bound m1 (by omega)
    have m4 : (offZ l (lowF l i) * offZ l (lowF l i) * lenZ l i).natAbs ≤ 30720000 * 30720000 * 3200 := mul_bound m2 (by omega)
    have w1 : IntKind.i64.wrap (offZ l i * offZ l i) = offZ l i * offZ l i := wrap_abs (Nat.le_trans m1 (by decide))
    have w2 : IntKind.i64.wrap (offZ l (lowF l i) * offZ l (lowF l i)) = offZ l (lowF l i) * offZ l (lowF l i) := wrap_abs (Nat.le_trans m2 (by decide))
    have w3 : IntKind.i64.wrap (offZ l i * offZ l i * lenZ l (lowF l i)) = offZ l i * offZ l i * lenZ l (lowF l i) := wrap_abs (Nat.le_trans m3 (by decide))
    have w4 : IntKind.i64.wrap (offZ l (lowF l i) * offZ l (lowF l i) * lenZ l i) = offZ l (lowF l i) * offZ l (lowF l i) * lenZ l i := wrap_abs (Nat.le_trans m4 (by decide))
    clear m1 m2 m3 m4 o2 o4 l2 l4 hp hq
    have E2 := E.app [SO.cells [.int .i64 (cn l i).1, .int .i64 (cn l i).2] 77 true 0 [], .cells [.int .i64 (cn l ((i + 1) % l.length)).1, .int .i64 (cn l ((i + 1) % l.length)).2] 77 true 0 [], .cells [.int .i64 (sbt (cn l ((i + 1) % l.length)) (cn l i)).1, .int .i64 (sbt (cn l ((i + 1) % l.length)) (cn l i)).2] 77 true 0 []]
    have la : h'.length + 1 + 1 = h'.length + 2 := rfl
    by_cases hz : i = 0
    · have e0 : ((i : Int) = 0) = True := eq_true (by omega)
      have hlow : lowF l (i + 1) = i := by rw [hz, lowF_one]
      have hne : ¬ (i + 1 = 0) := by omega
      generalize sbt (cn l ((i + 1) % l.length)) (cn l i) = U at *
      generalize (i + 1) % l.length = a at *
      generalize cn l a = q at *
      generalize cn l i = p at *
      repeat (first | apply run_seq | apply run_block | apply end_seq | apply end_blk_hit | apply end_blk_miss rfl | apply end_blk | apply end_seq_exit | apply end_seq_ret | apply end_blk_ret | apply run_skip | apply run_ret | apply run_exit | (apply run_region (by decide); (simp only [go_sem, ↓reduceIte, Int.reduceAdd, Int.reduceEq, Int.reduceLE, Int.reduceLT, Int.reduceMul, Int.reduceNeg, Int.reduceSub, Int.reduceToNat, Nat.reduceAdd, Nat.reduceBEq, Nat.reduceEqDiff, Nat.reduceLT, Nat.reduceLeDiff, Nat.reduceMul, Nat.reduceSub, h4, h6, h7, h8, h27, h28, e1, e0, c67, c80, c81, c82, ew]; rfl)) | (refine run_cond_t ?_ ?_; · simp only [go_sem, ↓reduceIte, Nat.reduceEqDiff]) | (refine run_cond_f ?_ ?_; · simp only [go_sem, ↓reduceIte, Nat.reduceEqDiff]))
      refine end_nil ⟨k - 1, by omega, i + 1, by omega, ?_, ?_, ?_, ?_, ?_, ?_, E2, rfl, rfl⟩
      · simp only [go_sem, ↓reduceIte, Int.reduceAdd, Int.reduceEq, Int.reduceLE, Int.reduceLT, Int.reduceMul, Int.reduceNeg, Int.reduceSub, Int.reduceToNat, Nat.reduceAdd, Nat.reduceBEq, Nat.reduceEqDiff, Nat.reduceLT, Nat.reduceLeDiff, Nat.reduceMul, Nat.reduceSub, h4]
      · simp only [go_sem, ↓reduceIte, Int.reduceAdd, Int.reduceEq, Int.reduceLE, Int.reduceLT, Int.reduceMul, Int.reduceNeg, Int.reduceSub, Int.reduceToNat, Nat.reduceAdd, Nat.reduceBEq, Nat.reduceEqDiff, Nat.reduceLT, Nat.reduceLeDiff, Nat.reduceMul, Nat.reduceSub]; rw [hlow]
      · simp only [go_sem, ↓reduceIte, Int.reduceAdd, Int.reduceEq, Int.reduceLE, Int.reduceLT, Int.reduceMul, Int.reduceNeg, Int.reduceSub, Int.reduceToNat, Nat.reduceAdd, Nat.reduceBEq, Nat.reduceEqDiff, Nat.reduceLT, Nat.reduceLeDiff, Nat.reduceMul, Nat.reduceSub, hne]; rw [hlow]
      · simp only [go_sem, ↓reduceIte, Int.reduceAdd, Int.reduceEq, Int.reduceLE, Int.reduceLT, Int.reduceMul, Int.reduceNeg, Int.reduceSub, Int.reduceToNat, Nat.reduceAdd, Nat.reduceBEq, Nat.reduceEqDiff, Nat.reduceLT, Nat.reduceLeDiff, Nat.reduceMul, Nat.reduceSub, hne]; rw [hlow]
      · simp only [go_sem, ↓reduceIte, Int.reduceAdd, Int.reduceEq, Int.reduceLE, Int.reduceLT, Int.reduceMul, Int.reduceNeg, Int.reduceSub, Int.reduceToNat, Nat.reduceAdd, Nat.reduceBEq, Nat.reduceEqDiff, Nat.reduceLT, Nat.reduceLeDiff, Nat.reduceMul, Nat.reduceSub, h27]
      · simp only [go_sem, ↓reduceIte, Int.reduceAdd, Int.reduceEq, Int.reduceLE, Int.reduceLT, Int.reduceMul, Int.reduceNeg, Int.reduceSub, Int.reduceToNat, Nat.reduceAdd, Nat.reduceBEq, Nat.reduceEqDiff, Nat.reduceLT, Nat.reduceLeDiff, Nat.reduceMul, Nat.reduceSub, ew]
    · have e0 : ¬ ((i : Int) = 0) := by omega
      rw [if_neg hz] at h7 h8
      by_cases hc : lnLt l i (lowF l i)
      · have hc' : offZ l i * offZ l i * lenZ l (lowF l i) < offZ l (lowF l i) * offZ l (lowF l i) * lenZ l i := hc
        have hlow := lowF_pos hz hc
        generalize sbt (cn l ((i + 1) % l.length)) (cn l i) = U at *
        generalize (i + 1) % l.length = a at *
        generalize cn l a = q at *
        generalize cn l i = p at *
        repeat (first | apply run_seq | apply run_block | apply end_seq | apply end_blk_hit | apply end_blk_miss rfl | apply end_blk | apply end_seq_exit | apply end_seq_ret | apply end_blk_ret | apply run_skip | apply run_ret | apply run_exit | (apply run_region (by decide); (simp only [go_sem, ↓reduceIte, Int.reduceAdd, Int.reduceEq, Int.reduceLE, Int.reduceLT, Int.reduceMul, Int.reduceNeg, Int.reduceSub, Int.reduceToNat, Nat.reduceAdd, Nat.reduceBEq, Nat.reduceEqDiff, Nat.reduceLT, Nat.reduceLeDiff, Nat.reduceMul, Nat.reduceSub, h4, h6, h7, h8, h27, h28, e1, e0, c67, c80, c81, c82, ew, w1, w2, w3, w4, hc']; rfl)) | (refine run_cond_t ?_ ?_; · simp only [go_sem, ↓reduceIte, Nat.reduceEqDiff]) | (refine run_cond_f ?_ ?_; · simp only [go_sem, ↓reduceIte, Nat.reduceEqDiff]))
        refine end_nil ⟨k - 1, by omega, i + 1, by omega, ?_, ?_, ?_, ?_, ?_, ?_, E2, rfl, rfl⟩
        · simp only [go_sem, ↓reduceIte, Int.reduceAdd, Int.reduceEq, Int.reduceLE, Int.reduceLT, Int.reduceMul, Int.reduceNeg, Int.reduceSub, Int.reduceToNat, Nat.reduceAdd, Nat.reduceBEq, Nat.reduceEqDiff, Nat.reduceLT, Nat.reduceLeDiff, Nat.reduceMul, Nat.reduceSub, h4]
        · simp only [go_sem, ↓reduceIte, Int.reduceAdd, Int.reduceEq, Int.reduceLE, Int.reduceLT, Int.reduceMul, Int.reduceNeg, Int.reduceSub, Int.reduceToNat, Nat.reduceAdd, Nat.reduceBEq, Nat.reduceEqDiff, Nat.reduceLT, Nat.reduceLeDiff, Nat.reduceMul, Nat.reduceSub]; rw [hlow]
        · simp only [go_sem, ↓reduceIte, Int.reduceAdd, Int.reduceEq, Int.reduceLE, Int.reduceLT, Int.reduceMul, Int.reduceNeg, Int.reduceSub, Int.reduceToNat, Nat.reduceAdd, Nat.reduceBEq, Nat.reduceEqDiff, Nat.reduceLT, Nat.reduceLeDiff, Nat.reduceMul, Nat.reduceSub]; rw [hlow]
        · simp only [go_sem, ↓reduceIte, Int.reduceAdd, Int.reduceEq, Int.reduceLE, Int.reduceLT, Int.reduceMul, Int.reduceNeg, Int.reduceSub, Int.reduceToNat, Nat.reduceAdd, Nat.reduceBEq, Nat.reduceEqDiff, Nat.reduceLT, Nat.reduceLeDiff, Nat.reduceMul, Nat.reduceSub]; rw [hlow]
        · simp only [go_sem, ↓reduceIte, Int.reduceAdd, Int.reduceEq, Int.reduceLE, Int.reduceLT, Int.reduceMul, Int.reduceNeg, Int.reduceSub, Int.reduceToNat, Nat.reduceAdd, Nat.reduceBEq, Nat.reduceEqDiff, Nat.reduceLT, Nat.reduceLeDiff, Nat.reduceMul, Nat.reduceSub, h27]
        · simp only [go_sem, ↓reduceIte, Int.reduceAdd, Int.reduceEq, Int.reduceLE, Int.reduceLT, Int.reduceMul, Int.reduceNeg, Int.reduceSub, Int.reduceToNat, Nat.reduceAdd, Nat.reduceBEq, Nat.reduceEqDiff, Nat.reduceLT, Nat.reduceLeDiff, Nat.reduceMul, Nat.reduceSub, ew]
      · have hc' : ¬ (offZ l i * offZ l i * lenZ l (lowF l i) < offZ l (lowF l i) * offZ l (lowF l i) * lenZ l i) := hc
        have hlow := lowF_neg hz hc
        generalize sbt (cn l ((i + 1) % l.length)) (cn l i) = U at *
        generalize (i + 1) % l.length = a at *
        generalize cn l a = q at *
        generalize cn l i = p at *
        repeat (first | apply run_seq | apply run_block | apply end_seq | apply end_blk_hit | apply end_blk_miss rfl | apply end_blk | apply end_seq_exit | apply end_seq_ret | apply end_blk_ret | apply run_skip | apply run_ret | apply run_exit | (apply run_region (by decide); (simp only [go_sem, ↓reduceIte, Int.reduceAdd, Int.reduceEq, Int.reduceLE, Int.reduceLT, Int.reduceMul, Int.reduceNeg, Int.reduceSub, Int.reduceToNat, Nat.reduceAdd, Nat.reduceBEq, Nat.reduceEqDiff, Nat.reduceLT, Nat.reduceLeDiff, Nat.reduceMul, Nat.reduceSub, h4, h6, h7, h8, h27, h28, e1, e0, c67, c80, c81, c82, ew, w1, w2, w3, w4, hc']; rfl)) | (refine run_cond_t ?_ ?_; · simp only [go_sem, ↓reduceIte, Nat.reduceEqDiff]) | (refine run_cond_f ?_ ?_; · simp only [go_sem, ↓reduceIte, Nat.reduceEqDiff]))
        refine end_nil ⟨k - 1, by omega, i + 1, by omega, ?_, ?_, ?_, ?_, ?_, ?_, E2, rfl, rfl⟩
        · simp only [go_sem, ↓reduceIte, Int.reduceAdd, Int.reduceEq, Int.reduceLE, Int.reduceLT, Int.reduceMul, Int.reduceNeg, Int.reduceSub, Int.reduceToNat, Nat.reduceAdd, Nat.reduceBEq, Nat.reduceEqDiff, Nat.reduceLT, Nat.reduceLeDiff, Nat.reduceMul, Nat.reduceSub, h4]
        · simp only [go_sem, ↓reduceIte, Int.reduceAdd, Int.reduceEq, Int.reduceLE, Int.reduceLT, Int.reduceMul, Int.reduceNeg, Int.reduceSub, Int.reduceToNat, Nat.reduceAdd, Nat.reduceBEq, Nat.reduceEqDiff, Nat.reduceLT, Nat.reduceLeDiff, Nat.reduceMul, Nat.reduceSub, h6]; rw [hlow]
        · simp only [go_sem, ↓reduceIte, Int.reduceAdd, Int.reduceEq, Int.reduceLE, Int.reduceLT, Int.reduceMul, Int.reduceNeg, Int.reduceSub, Int.reduceToNat, Nat.reduceAdd, Nat.reduceBEq, Nat.reduceEqDiff, Nat.reduceLT, Nat.reduceLeDiff, Nat.reduceMul, Nat.reduceSub, h7]; rw [hlow]
        · simp only [go_sem, ↓reduceIte, Int.reduceAdd, Int.reduceEq, Int.reduceLE, Int.reduceLT, Int.reduceMul, Int.reduceNeg, Int.reduceSub, Int.reduceToNat, Nat.reduceAdd, Nat.reduceBEq, Nat.reduceEqDiff, Nat.reduceLT, Nat.reduceLeDiff, Nat.reduceMul, Nat.reduceSub, h8]; rw [hlow]
        · simp only [go_sem, ↓reduceIte, Int.reduceAdd, Int.reduceEq, Int.reduceLE, Int.reduceLT, Int.reduceMul, Int.reduceNeg, Int.reduceSub, Int.reduceToNat, Nat.reduceAdd, Nat.reduceBEq, Nat.reduceEqDiff, Nat.reduceLT, Nat.reduceLeDiff, Nat.reduceMul, Nat.reduceSub, h27]
        · simp only [go_sem, ↓reduceIte, Int.reduceAdd, Int.reduceEq, Int.reduceLE, Int.reduceLT, Int.reduceMul, Int.reduceNeg, Int.reduceSub, Int.reduceToNat, Nat.reduceAdd, Nat.reduceBEq, Nat.reduceEqDiff, Nat.reduceLT, Nat.reduceLeDiff, Nat.reduceMul, Nat.reduceSub, ew]

/-- Lowest -/
theorem lowest42 {h : SHeap} {v : Value} {l : List (Int × Int)} (hv : PS h v l) (T : Tame l) : M.call 42 [v] h = some (.tuple #[.int .i64 (lowF l l.length), .int .i64 0], h, []) := by
  have c62 := open62' hv T
  have hb := opened_body h l
  have lb := hb.load
  refine call_run sf42 rfl rfl rfl ?_
  unfold sf42
  repeat (first | apply run_seq | apply run_block | apply end_seq | apply end_blk_hit | apply end_blk_miss rfl | apply end_blk | apply end_seq_exit | apply end_seq_ret | apply end_blk_ret | apply run_skip | apply run_ret | apply run_exit | (apply run_region (by decide); (simp only [go_sem, ↓reduceIte, Int.reduceAdd, Int.reduceEq, Int.reduceLE, Int.reduceLT, Int.reduceMul, Int.reduceNeg, Int.reduceSub, Int.reduceToNat, Nat.reduceAdd, Nat.reduceBEq, Nat.reduceEqDiff, Nat.reduceLT, Nat.reduceLeDiff, Nat.reduceMul, Nat.reduceSub, argR, c62, lb]; rfl)) | (refine run_cond_t ?_ ?_; · simp only [go_sem, ↓reduceIte, Nat.reduceEqDiff]) | (refine run_cond_f ?_ ?_; · simp only [go_sem, ↓reduceIte, Nat.reduceEqDiff]))
  refine run_loop (lowest_loop _ hb T l.length _ _ _ _ ⟨0, by omega, by simp only [go_sem, ↓reduceIte, Int.reduceAdd, Int.reduceEq, Int.reduceLE, Int.reduceLT, Int.reduceMul, Int.reduceNeg, Int.reduceSub, Int.reduceToNat, Nat.reduceAdd, Nat.reduceBEq, Nat.reduceEqDiff, Nat.reduceLT, Nat.reduceLeDiff, Nat.reduceMul, Nat.reduceSub], by (simp only [go_sem, ↓reduceIte, Int.reduceAdd, Int.reduceEq, Int.reduceLE, Int.reduceLT, Int.reduceMul, Int.reduceNeg, Int.reduceSub, Int.reduceToNat, Nat.reduceAdd, Nat.reduceBEq, Nat.reduceEqDiff, Nat.reduceLT, Nat.reduceLeDiff, Nat.reduceMul, Nat.reduceSub]) <;> rfl, by (simp only [go_sem, ↓reduceIte, Int.reduceAdd, Int.reduceEq, Int.reduceLE, Int.reduceLT, Int.reduceMul, Int.reduceNeg, Int.reduceSub, Int.reduceToNat, Nat.reduceAdd, Nat.reduceBEq, Nat.reduceEqDiff, Nat.reduceLT, Nat.reduceLeDiff, Nat.reduceMul, Nat.reduceSub]) <;> rfl, by (simp only [go_sem, ↓reduceIte, Int.reduceAdd, Int.reduceEq, Int.reduceLE, Int.reduceLT, Int.reduceMul, Int.reduceNeg, Int.reduceSub, Int.reduceToNat, Nat.reduceAdd, Nat.reduceBEq, Nat.reduceEqDiff, Nat.reduceLT, Nat.reduceLeDiff, Nat.reduceMul, Nat.reduceSub]) <;> rfl, by simp only [go_sem, ↓reduceIte, Int.reduceAdd, Int.reduceEq, Int.reduceLE, Int.reduceLT, Int.reduceMul, Int.reduceNeg, Int.reduceSub, Int.reduceToNat, Nat.reduceAdd, Nat.reduceBEq, Nat.reduceEqDiff, Nat.reduceLT, Nat.reduceLeDiff, Nat.reduceMul, Nat.reduceSub], by (simp only [go_sem, ↓reduceIte, Int.reduceAdd, Int.reduceEq, Int.reduceLE, Int.reduceLT, Int.reduceMul, Int.reduceNeg, Int.reduceSub, Int.reduceToNat, Nat.reduceAdd, Nat.reduceBEq, Nat.reduceEqDiff, Nat.reduceLT, Nat.reduceLeDiff, Nat.reduceMul, Nat.reduceSub]) <;> rfl, Ext.refl _, rfl, rfl⟩) ?_
  rintro ex ρ' ms' h1 d1 ⟨rfl, k6, E, rfl, rfl⟩
  repeat (first | apply run_seq | apply run_block | apply end_seq | apply end_blk_hit | apply end_blk_miss rfl | apply end_blk | apply end_seq_exit | apply end_seq_ret | apply end_blk_ret | apply run_skip | apply run_ret | apply run_exit | (apply run_region (by decide); (simp only [go_sem, ↓reduceIte, Int.reduceAdd, Int.reduceEq, Int.reduceLE, Int.reduceLT, Int.reduceMul, Int.reduceNeg, Int.reduceSub, Int.reduceToNat, Nat.reduceAdd, Nat.reduceBEq, Nat.reduceEqDiff, Nat.reduceLT, Nat.reduceLeDiff, Nat.reduceMul, Nat.reduceSub, k6]; rfl)) | (refine run_cond_t ?_ ?_; · simp only [go_sem, ↓reduceIte, Nat.reduceEqDiff]) | (refine run_cond_f ?_ ?_; · simp only [go_sem, ↓reduceIte, Nat.reduceEqDiff]))
  refine end_nil (q_ret2 _ _ (by simp only [go_sem, ↓reduceIte, Int.reduceAdd, Int.reduceEq, Int.reduceLE, Int.reduceLT, Int.reduceMul, Int.reduceNeg, Int.reduceSub, Int.reduceToNat, Nat.reduceAdd, Nat.reduceBEq, Nat.reduceEqDiff, Nat.reduceLT, Nat.reduceLeDiff, Nat.reduceMul, Nat.reduceSub]) (by simp only [go_sem, ↓reduceIte, Int.reduceAdd, Int.reduceEq, Int.reduceLE, Int.reduceLT, Int.reduceMul, Int.reduceNeg, Int.reduceSub, Int.reduceToNat, Nat.reduceAdd, Nat.reduceBEq, Nat.reduceEqDiff, Nat.reduceLT, Nat.reduceLeDiff, Nat.reduceMul, Nat.reduceSub]) rfl rfl ?_)
  obtain ⟨g, rfl⟩ := E
  unfold opened
  rw [List.append_assoc]
  exact take_app _ _

/-- the leans in lowest terms, compared -/
theorem low_cmp {a b c d : Int} (hb : 0 < b) (hd : 0 < d) : decide ((a.tdiv (Int.gcd a b)) * (d.tdiv (Int.gcd c d)) < (c.tdiv (Int.gcd c d)) * (b.tdiv (Int.gcd a b))) = decide (a * d < c * b) := by
  have g1 : 0 < (Int.gcd a b : Int) := by
    have : Int.gcd a b ≠ 0 := fun e => by have := Int.eq_zero_of_gcd_eq_zero_right e; omega
    omega
  have g2 : 0 < (Int.gcd c d : Int) := by
    have : Int.gcd c d ≠ 0 := fun e => by have := Int.eq_zero_of_gcd_eq_zero_right e; omega
    omega
  have e1 : (Int.gcd a b : Int) * a.tdiv (Int.gcd a b) = a := Int.mul_tdiv_cancel' (Int.gcd_dvd_left ..)
  have e2 : (Int.gcd a b : Int) * b.tdiv (Int.gcd a b) = b := Int.mul_tdiv_cancel' (Int.gcd_dvd_right ..)
  have e3 : (Int.gcd c d : Int) * c.tdiv (Int.gcd c d) = c := Int.mul_tdiv_cancel' (Int.gcd_dvd_left ..)
  have e4 : (Int.gcd c d : Int) * d.tdiv (Int.gcd c d) = d := Int.mul_tdiv_cancel' (Int.gcd_dvd_right ..)
  generalize (Int.gcd a b : Int) = g at *
  generalize (Int.gcd c d : Int) = k at *
  generalize a.tdiv g = A at *
  generalize b.tdiv g = B at *
  generalize c.tdiv k = C at *
  generalize d.tdiv k = D at *
  have f1 : a * d = g * k * (A * D) := by rw [← e1, ← e4]; grind
  have f2 : c * b = g * k * (C * B) := by rw [← e3, ← e2]; grind
  have hgk : 0 < g * k := Int.mul_pos g1 g2
  rw [f1, f2]
  by_cases h : A * D < C * B
  · rw [decide_eq_true h, decide_eq_true (Int.mul_lt_mul_of_pos_left h hgk)]
  · rw [decide_eq_false h, decide_eq_false]
    intro h2
    exact h (Int.lt_of_mul_lt_mul_left h2 (by omega))

theorem tdiv_pos' {a : Int} {g : Nat} (ha : 0 < a) (hg : (g : Int) ∣ a) : 0 < a.tdiv g := by
  have e := Int.mul_tdiv_cancel' hg
  have : 0 < (g : Int) := by
    rcases Nat.eq_zero_or_pos g with z | z
    · subst z; simp at hg; omega
    · omega
  exact pos_of_mul this (by omega)

theorem lean_low {l : List (Int × Int)} (T : Tame l) {i : Nat} (hi : i < l.length) : 0 < (lnA l i).tdiv (lnG l i) ∧ (lnA l i).tdiv (lnG l i) ≤ 943718400000000 ∧ 0 < (lnB l i).tdiv (lnG l i) ∧ (lnB l i).tdiv (lnG l i) ≤ 2654208000000 := by
  have b := ln_bounds T hi
  have h1 := tdiv_pos' b.1 (Int.gcd_dvd_left (lnA l i) (lnB l i))
  have h2 := tdiv_pos' b.2.2.1 (Int.gcd_dvd_right (lnA l i) (lnB l i))
  have h3 := tdiv_le (lnA l i) (lnG l i) 943718400000000 (by omega)
  have h4 := tdiv_le (lnB l i) (lnG l i) 2654208000000 (by omega)
  unfold lnG at *
  omega

/-- Less upon leans -/
theorem lessLn {l : List (Int × Int)} (T : Tame l) {i j : Nat} (hi : i < l.length) (hj : j < l.length) (h : SHeap) :
    M.call 31 [.agg #[.int .i64 ((lnA l i).tdiv (lnG l i)), .int .i64 ((lnB l i).tdiv (lnG l i))], .agg #[.int .i64 ((lnA l j).tdiv (lnG l j)), .int .i64 ((lnB l j).tdiv (lnG l j))]] h = some (.bool (decide (lnLt l i j)), h, []) := by
  have b1 := ln_bounds T hi
  have b2 := ln_bounds T hj
  have c1 := lean_low T hi
  have c2 := lean_low T hj
  rw [less31 _ _ _ _ _ (Nat.le_refl _) (by omega) (by omega) (by omega) (by omega) (by omega) (by omega) (by omega) (by omega) h]
  have := low_cmp (a := lnA l i) (c := lnA l j) b1.2.2.1 b2.2.2.1
  unfold lnG
  rw [this]
  have e : (lnA l i * lnB l j < lnA l j * lnB l i) ↔ lnLt l i j := by
    unfold lnLt lnA lnB
    have e1 : offZ l i * offZ l i * (mD l * mD l * lenZ l j) = mD l * mD l * (offZ l i * offZ l i * lenZ l j) := by grind
    have e2 : offZ l j * offZ l j * (mD l * mD l * lenZ l i) = mD l * mD l * (offZ l j * offZ l j * lenZ l i) := by grind
    rw [e1, e2]
    constructor
    · intro k; exact Int.lt_of_mul_lt_mul_left k (by omega)
    · intro k; exact Int.mul_lt_mul_of_pos_left k (by omega)
  by_cases k : lnLt l i j
  · rw [decide_eq_true k, decide_eq_true (e.2 k)]
  · rw [decide_eq_false k, decide_eq_false (fun z => k (e.1 z))]

end Go.Proofs.Ytecncmmkghmojaa.Sh

