/- Tips of the document; comparing numbers; the law of the rests. -/
import Derived.Test.YtecncmmkghmojaaXp
import Derived.Test.YtecncmmkghmojaaH5
set_option linter.all false
namespace Go.Proofs.Ytecncmmkghmojaa.Sh
open Go Geo
set_option maxRecDepth 100000

theorem tipsR_loop (cx : Cx) {h H : SHeap} {w : Value} {l : List (Int × Int)} (hH : H = h ++ [SO.cells [.int .i64 (mX l), .int .i64 (mY l), .int .i64 (mD l)] 27 true 0 []]) (hw : PS H w l) (T : Tame l) (test : Nat → Bool)
    (ht : ∀ i, test i = tipB (mX l) (mY l) (mD l) (cn l i) (cn l ((i + 1) % l.length)) (cn l ((i + l.length - 1) % l.length))) :
    ∀ k ρ ms h' d', (∃ (i : Nat) (v : Value), i + k = l.length ∧ ρ 0 = w ∧ ρ 3 = v ∧ ρ 4 = .int .i64 l.length ∧ ρ 5 = .pointer (some ⟨h.length, 0, none⟩) ∧ ρ 6 = .int .i64 i ∧ AccS H h' v (natV ((List.range i).filter test)) ((List.range i).filter test).length 1 3 ∧ ms = [] ∧ d' = []) →
    LoopW M cx 6 sf41L0 ρ ms h' d' (fun ex ρ' ms' h' d' => ex = .exit 0 ∧ ∃ v : Value, ρ' 3 = v ∧ AccS H h' v (natV ((List.range l.length).filter test)) ((List.range l.length).filter test).length 1 3 ∧ ms' = [] ∧ d' = []) := by
  have hn := T.hi
  refine loop_run _ ?_
  rintro k ρ ms h' d' ⟨i, v, hi, h0, h3, h4, h5, h6, A, rfl, rfl⟩
  have hw' := A.ps hw
  have hHl : H.length = h.length + 1 := by rw [hH]; simp
  have hM : h'[h.length]? = some (.cells [.int .i64 (mX l), .int .i64 (mY l), .int .i64 (mD l)] 27 true 0 []) := by
    rw [A.same _ (by omega), hH, app_get0]; rfl
  have lm : loadS h' (some 3) (.pointer (some ⟨h.length, 0, none⟩)) = some (.agg #[.int .i64 (mX l), .int .i64 (mY l), .int .i64 (mD l)]) := by rw [load_rdON, hM]; rfl
  unfold sf41L0
  by_cases hk : k = 0
  · have e1 : ¬ ((i : Int) < l.length) := by omega
    have ei : i = l.length := by omega
    repeat (first | apply run_seq | apply run_block | apply end_seq | apply end_blk_hit | apply end_blk_miss rfl | apply end_blk | apply end_seq_exit | apply end_seq_ret | apply end_blk_ret | apply run_skip | apply run_ret | apply run_exit | (apply run_region (by decide); (simp only [go_sem, ↓reduceIte, Int.reduceAdd, Int.reduceEq, Int.reduceLE, Int.reduceLT, Int.reduceMul, Int.reduceNeg, Int.reduceSub, Int.reduceToNat, Nat.reduceAdd, Nat.reduceBEq, Nat.reduceEqDiff, Nat.reduceLT, Nat.reduceLeDiff, Nat.reduceMul, Nat.reduceSub, h4, h6, e1]; rfl)) | (refine run_cond_t ?_ ?_; · simp only [go_sem, ↓reduceIte, Nat.reduceEqDiff]) | (refine run_cond_f ?_ ?_; · simp only [go_sem, ↓reduceIte, Nat.reduceEqDiff]))
    refine end_nil ⟨rfl, v, ?_, ?_, rfl, rfl⟩
    · simp only [go_sem, ↓reduceIte, Int.reduceAdd, Int.reduceEq, Int.reduceLE, Int.reduceLT, Int.reduceMul, Int.reduceNeg, Int.reduceSub, Int.reduceToNat, Nat.reduceAdd, Nat.reduceBEq, Nat.reduceEqDiff, Nat.reduceLT, Nat.reduceLeDiff, Nat.reduceMul, Nat.reduceSub, h3]
    · rw [ei] at A; exact A
  · have e1 : (i : Int) < l.length := by omega
    have e0 : (0 : Int) ≤ i := by omega
    have hil : i < l.length := by omega
    have ew : IntKind.i64.wrap ((i : Int) + 1) = ((i + 1 : Nat) : Int) := by rw [wrap64 (by omega) (by omega)]; rfl
    have e2 : IntKind.i64.wrap ((i : Int) + l.length) = ((i + l.length : Nat) : Int) := by rw [wrap64 (by omega) (by omega)]; rfl
    have e3 : IntKind.i64.wrap (((i + l.length : Nat) : Int) - 1) = ((i + l.length - 1 : Nat) : Int) := by rw [wrap64 (by omega) (by omega)]; omega
    have e4 : (((i + l.length - 1 : Nat) : Int)).tmod (l.length : Int) = (((i + l.length - 1) % l.length : Nat) : Int) := by rw [Int.tmod_eq_emod_of_nonneg (by omega)]; rfl
    have v4 : (((i + 1 : Nat) : Int)).tmod (l.length : Int) = (((i + 1) % l.length : Nat) : Int) := by rw [Int.tmod_eq_emod_of_nonneg (by omega)]; rfl
    have hz : ¬ ((l.length : Int) = 0) := by omega
    have hqm : (i + 1) % l.length < l.length := Nat.mod_lt _ (by omega)
    have hrm : (i + l.length - 1) % l.length < l.length := Nat.mod_lt _ (by omega)
    have q1 : (((i + 1) % l.length : Nat) : Int) < l.length := by omega
    have q2 : (0 : Int) ≤ (((i + 1) % l.length : Nat) : Int) := by omega
    have q3 : (((i + l.length - 1) % l.length : Nat) : Int) < l.length := by omega
    have q4 : (0 : Int) ≤ (((i + l.length - 1) % l.length : Nat) : Int) := by omega
    obtain ⟨wa, wc, rfl, wk⟩ := hw'
    obtain ⟨b, o, rfl, hp⟩ := wk (by intro e; rw [e] at hil; simp at hil)
    have l1 := hp.corner hil []
    have l2 := hp.corner hqm []
    have l3 := hp.corner hrm []
    rw [List.append_nil] at l1 l2 l3
    have hp : inR (cn l i) := inR_getD T.inr i
    have hq : inR (cn l ((i + 1) % l.length)) := inR_getD T.inr ((i + 1) % l.length)
    have hr : inR (cn l ((i + l.length - 1) % l.length)) := inR_getD T.inr ((i + l.length - 1) % l.length)
    have F := T.fine
    have a1 := fun e => along79 F hp hq e
    have a2 := fun e => along79 F hp hr e
    have htt := ht i
    unfold tipB at htt
    have hfs := filter_succ test i
    have hfl := filter_le test i
    generalize (i + l.length - 1) % l.length = j at *
    generalize (i + 1) % l.length = a at *
    generalize cn l i = p at *
    generalize cn l a = q at *
    generalize cn l j = r at *
    generalize ahd (mX l) (mY l) (mD l) p q = Z1 at *
    generalize ahd (mX l) (mY l) (mD l) p r = Z2 at *
    by_cases c1 : 0 < Z1
    · by_cases c2 : 0 < Z2
      · have e5 : test i = true := by rw [htt, decide_eq_true c1, decide_eq_true c2]; rfl
        simp only [e5, if_true] at hfs
        have A2 := A.app [SO.cells [.int .i64 (i : Int)] 3 true 0 []]
        obtain ⟨H2, v2, ap, -, A3, -, -⟩ := A2.push (bytes := 8) (bs := h'.length) (el2 := 3) (pf2 := true) (own2 := 0) (old2 := []) (new := [.int .i64 (i : Int)]) (by rw [app_get0]; rfl) rfl rfl (by decide) rfl (by decide) (by omega)
        repeat (first | apply run_seq | apply run_block | apply end_seq | apply end_blk_hit | apply end_blk_miss rfl | apply end_blk | apply end_seq_exit | apply end_seq_ret | apply end_blk_ret | apply run_skip | apply run_ret | apply run_exit | (apply run_region (by decide); (simp only [go_sem, ↓reduceIte, Int.reduceAdd, Int.reduceEq, Int.reduceLE, Int.reduceLT, Int.reduceMul, Int.reduceNeg, Int.reduceSub, Int.reduceToNat, Nat.reduceAdd, Nat.reduceBEq, Nat.reduceEqDiff, Nat.reduceLT, Nat.reduceLeDiff, Nat.reduceMul, Nat.reduceSub, h0, h3, h4, h5, h6, e1, e0, lm, l1, l2, l3, e2, e3, e4, v4, hz, q1, q2, q3, q4, a1, a2, c1, c2, ap, ew, Int.toNat_natCast]; rfl)) | (refine run_cond_t ?_ ?_; · simp only [go_sem, ↓reduceIte, Nat.reduceEqDiff]) | (refine run_cond_f ?_ ?_; · simp only [go_sem, ↓reduceIte, Nat.reduceEqDiff]))
        refine end_nil ⟨k - 1, by omega, i + 1, v2, by omega, ?_, ?_, ?_, ?_, ?_, ?_, rfl, rfl⟩
        · simp only [go_sem, ↓reduceIte, Int.reduceAdd, Int.reduceEq, Int.reduceLE, Int.reduceLT, Int.reduceMul, Int.reduceNeg, Int.reduceSub, Int.reduceToNat, Nat.reduceAdd, Nat.reduceBEq, Nat.reduceEqDiff, Nat.reduceLT, Nat.reduceLeDiff, Nat.reduceMul, Nat.reduceSub, h0]
        · simp only [go_sem, ↓reduceIte, Int.reduceAdd, Int.reduceEq, Int.reduceLE, Int.reduceLT, Int.reduceMul, Int.reduceNeg, Int.reduceSub, Int.reduceToNat, Nat.reduceAdd, Nat.reduceBEq, Nat.reduceEqDiff, Nat.reduceLT, Nat.reduceLeDiff, Nat.reduceMul, Nat.reduceSub]
        · simp only [go_sem, ↓reduceIte, Int.reduceAdd, Int.reduceEq, Int.reduceLE, Int.reduceLT, Int.reduceMul, Int.reduceNeg, Int.reduceSub, Int.reduceToNat, Nat.reduceAdd, Nat.reduceBEq, Nat.reduceEqDiff, Nat.reduceLT, Nat.reduceLeDiff, Nat.reduceMul, Nat.reduceSub, h4]
        · simp only [go_sem, ↓reduceIte, Int.reduceAdd, Int.reduceEq, Int.reduceLE, Int.reduceLT, Int.reduceMul, Int.reduceNeg, Int.reduceSub, Int.reduceToNat, Nat.reduceAdd, Nat.reduceBEq, Nat.reduceEqDiff, Nat.reduceLT, Nat.reduceLeDiff, Nat.reduceMul, Nat.reduceSub, h5]
        · simp only [go_sem, ↓reduceIte, Int.reduceAdd, Int.reduceEq, Int.reduceLE, Int.reduceLT, Int.reduceMul, Int.reduceNeg, Int.reduceSub, Int.reduceToNat, Nat.reduceAdd, Nat.reduceBEq, Nat.reduceEqDiff, Nat.reduceLT, Nat.reduceLeDiff, Nat.reduceMul, Nat.reduceSub, ew]
        · rw [hfs, natV_app, natV_one, List.length_append]; exact A3
      · have e5 : test i = false := by rw [htt, decide_eq_false c2, Bool.and_false]
        simp only [e5, Bool.false_eq_true, if_false, List.append_nil] at hfs
        repeat (first | apply run_seq | apply run_block | apply end_seq | apply end_blk_hit | apply end_blk_miss rfl | apply end_blk | apply end_seq_exit | apply end_seq_ret | apply end_blk_ret | apply run_skip | apply run_ret | apply run_exit | (apply run_region (by decide); (simp only [go_sem, ↓reduceIte, Int.reduceAdd, Int.reduceEq, Int.reduceLE, Int.reduceLT, Int.reduceMul, Int.reduceNeg, Int.reduceSub, Int.reduceToNat, Nat.reduceAdd, Nat.reduceBEq, Nat.reduceEqDiff, Nat.reduceLT, Nat.reduceLeDiff, Nat.reduceMul, Nat.reduceSub, h0, h3, h4, h5, h6, e1, e0, lm, l1, l2, l3, e2, e3, e4, v4, hz, q1, q2, q3, q4, a1, a2, c1, c2, ew, Int.toNat_natCast]; rfl)) | (refine run_cond_t ?_ ?_; · simp only [go_sem, ↓reduceIte, Nat.reduceEqDiff]) | (refine run_cond_f ?_ ?_; · simp only [go_sem, ↓reduceIte, Nat.reduceEqDiff]))
        refine end_nil ⟨k - 1, by omega, i + 1, v, by omega, ?_, ?_, ?_, ?_, ?_, ?_, rfl, rfl⟩
        · simp only [go_sem, ↓reduceIte, Int.reduceAdd, Int.reduceEq, Int.reduceLE, Int.reduceLT, Int.reduceMul, Int.reduceNeg, Int.reduceSub, Int.reduceToNat, Nat.reduceAdd, Nat.reduceBEq, Nat.reduceEqDiff, Nat.reduceLT, Nat.reduceLeDiff, Nat.reduceMul, Nat.reduceSub, h0]
        · simp only [go_sem, ↓reduceIte, Int.reduceAdd, Int.reduceEq, Int.reduceLE, Int.reduceLT, Int.reduceMul, Int.reduceNeg, Int.reduceSub, Int.reduceToNat, Nat.reduceAdd, Nat.reduceBEq, Nat.reduceEqDiff, Nat.reduceLT, Nat.reduceLeDiff, Nat.reduceMul, Nat.reduceSub, h3]
        · simp only [go_sem, ↓reduceIte, Int.reduceAdd, Int.reduceEq, Int.reduceLE, Int.reduceLT, Int.reduceMul, Int.reduceNeg, Int.reduceSub, Int.reduceToNat, Nat.reduceAdd, Nat.reduceBEq, Nat.reduceEqDiff, Nat.reduceLT, Nat.reduceLeDiff, Nat.reduceMul, Nat.reduceSub, h4]
        · simp only [go_sem, ↓reduceIte, Int.reduceAdd, Int.reduceEq, Int.reduceLE, Int.reduceLT, Int.reduceMul, Int.reduceNeg, Int.reduceSub, Int.reduceToNat, Nat.reduceAdd, Nat.reduceBEq, Nat.reduceEqDiff, Nat.reduceLT, Nat.reduceLeDiff, Nat.reduceMul, Nat.reduceSub, h5]
        · simp only [go_sem, ↓reduceIte, Int.reduceAdd, Int.reduceEq, Int.reduceLE, Int.reduceLT, Int.reduceMul, Int.reduceNeg, Int.reduceSub, Int.reduceToNat, Nat.reduceAdd, Nat.reduceBEq, Nat.reduceEqDiff, Nat.reduceLT, Nat.reduceLeDiff, Nat.reduceMul, Nat.reduceSub, ew]
        · rw [hfs]; exact A
    · have e5 : test i = false := by rw [htt, decide_eq_false c1, Bool.false_and]
      simp only [e5, Bool.false_eq_true, if_false, List.append_nil] at hfs
      repeat (first | apply run_seq | apply run_block | apply end_seq | apply end_blk_hit | apply end_blk_miss rfl | apply end_blk | apply end_seq_exit | apply end_seq_ret | apply end_blk_ret | apply run_skip | apply run_ret | apply run_exit | (apply run_region (by decide); (simp only [go_sem, ↓reduceIte, Int.reduceAdd, Int.reduceEq, Int.reduceLE, Int.reduceLT, Int.reduceMul, Int.reduceNeg, Int.reduceSub, Int.reduceToNat, Nat.reduceAdd, Nat.reduceBEq, Nat.reduceEqDiff, Nat.reduceLT, Nat.reduceLeDiff, Nat.reduceMul, Nat.reduceSub, h0, h3, h4, h5, h6, e1, e0, lm, l1, l2, l3, e2, e3, e4, v4, hz, q1, q2, q3, q4, a1, a2, c1, ew, Int.toNat_natCast]; rfl)) | (refine run_cond_t ?_ ?_; · simp only [go_sem, ↓reduceIte, Nat.reduceEqDiff]) | (refine run_cond_f ?_ ?_; · simp only [go_sem, ↓reduceIte, Nat.reduceEqDiff]))
      refine end_nil ⟨k - 1, by omega, i + 1, v, by omega, ?_, ?_, ?_, ?_, ?_, ?_, rfl, rfl⟩
      · simp only [go_sem, ↓reduceIte, Int.reduceAdd, Int.reduceEq, Int.reduceLE, Int.reduceLT, Int.reduceMul, Int.reduceNeg, Int.reduceSub, Int.reduceToNat, Nat.reduceAdd, Nat.reduceBEq, Nat.reduceEqDiff, Nat.reduceLT, Nat.reduceLeDiff, Nat.reduceMul, Nat.reduceSub, h0]
      · simp only [go_sem, ↓reduceIte, Int.reduceAdd, Int.reduceEq, Int.reduceLE, Int.reduceLT, Int.reduceMul, Int.reduceNeg, Int.reduceSub, Int.reduceToNat, Nat.reduceAdd, Nat.reduceBEq, Nat.reduceEqDiff, Nat.reduceLT, Nat.reduceLeDiff, Nat.reduceMul, Nat.reduceSub, h3]
      · simp only [go_sem, ↓reduceIte, Int.reduceAdd, Int.reduceEq, Int.reduceLE, Int.reduceLT, Int.reduceMul, Int.reduceNeg, Int.reduceSub, Int.reduceToNat, Nat.reduceAdd, Nat.reduceBEq, Nat.reduceEqDiff, Nat.reduceLT, Nat.reduceLeDiff, Nat.reduceMul, Nat.reduceSub, h4]
      · simp only [go_sem, ↓reduceIte, Int.reduceAdd, Int.reduceEq, Int.reduceLE, Int.reduceLT, Int.reduceMul, Int.reduceNeg, Int.reduceSub, Int.reduceToNat, Nat.reduceAdd, Nat.reduceBEq, Nat.reduceEqDiff, Nat.reduceLT, Nat.reduceLeDiff, Nat.reduceMul, Nat.reduceSub, h5]
      · simp only [go_sem, ↓reduceIte, Int.reduceAdd, Int.reduceEq, Int.reduceLE, Int.reduceLT, Int.reduceMul, Int.reduceNeg, Int.reduceSub, Int.reduceToNat, Nat.reduceAdd, Nat.reduceBEq, Nat.reduceEqDiff, Nat.reduceLT, Nat.reduceLeDiff, Nat.reduceMul, Nat.reduceSub, ew]
      · rw [hfs]; exact A

/-- Tips of the document -/
theorem tipsR41 {h : SHeap} {v : Value} {l : List (Int × Int)} (hv : PS h v l) (T : Tame l) (test : Nat → Bool)
    (ht : ∀ i, test i = tipB (mX l) (mY l) (mD l) (cn l i) (cn l ((i + 1) % l.length)) (cn l ((i + l.length - 1) % l.length))) :
    M.call 41 [v] h = some (resV h ((List.range l.length).filter test).length 1, resH h (natV ((List.range l.length).filter test)) ((List.range l.length).filter test).length 3, []) := by
  have c22 := middleR22 hv T
  have hv' := hv.app [SO.cells [.int .i64 (mX l), .int .i64 (mY l), .int .i64 (mD l)] 27 true 0 []]
  have hvk := hv
  obtain ⟨va, vc, rfl, -⟩ := hvk
  refine call_run sf41 rfl rfl rfl ?_
  unfold sf41
  repeat (first | apply run_seq | apply run_block | apply end_seq | apply end_blk_hit | apply end_blk_miss rfl | apply end_blk | apply end_seq_exit | apply end_seq_ret | apply end_blk_ret | apply run_skip | apply run_ret | apply run_exit | (apply run_region (by decide); (simp only [go_sem, ↓reduceIte, Int.reduceAdd, Int.reduceEq, Int.reduceLE, Int.reduceLT, Int.reduceMul, Int.reduceNeg, Int.reduceSub, Int.reduceToNat, Nat.reduceAdd, Nat.reduceBEq, Nat.reduceEqDiff, Nat.reduceLT, Nat.reduceLeDiff, Nat.reduceMul, Nat.reduceSub, argR, c22]; rfl)) | (refine run_cond_t ?_ ?_; · simp only [go_sem, ↓reduceIte, Nat.reduceEqDiff]) | (refine run_cond_f ?_ ?_; · simp only [go_sem, ↓reduceIte, Nat.reduceEqDiff]))
  refine run_loop (tipsR_loop _ rfl hv' T test ht l.length _ _ _ _ ⟨0, .slice none 0 0, by omega, by simp only [go_sem, ↓reduceIte, Int.reduceAdd, Int.reduceEq, Int.reduceLE, Int.reduceLT, Int.reduceMul, Int.reduceNeg, Int.reduceSub, Int.reduceToNat, Nat.reduceAdd, Nat.reduceBEq, Nat.reduceEqDiff, Nat.reduceLT, Nat.reduceLeDiff, Nat.reduceMul, Nat.reduceSub, argR], by simp only [go_sem, ↓reduceIte, Int.reduceAdd, Int.reduceEq, Int.reduceLE, Int.reduceLT, Int.reduceMul, Int.reduceNeg, Int.reduceSub, Int.reduceToNat, Nat.reduceAdd, Nat.reduceBEq, Nat.reduceEqDiff, Nat.reduceLT, Nat.reduceLeDiff, Nat.reduceMul, Nat.reduceSub], by simp only [go_sem, ↓reduceIte, Int.reduceAdd, Int.reduceEq, Int.reduceLE, Int.reduceLT, Int.reduceMul, Int.reduceNeg, Int.reduceSub, Int.reduceToNat, Nat.reduceAdd, Nat.reduceBEq, Nat.reduceEqDiff, Nat.reduceLT, Nat.reduceLeDiff, Nat.reduceMul, Nat.reduceSub], by simp only [go_sem, ↓reduceIte, Int.reduceAdd, Int.reduceEq, Int.reduceLE, Int.reduceLT, Int.reduceMul, Int.reduceNeg, Int.reduceSub, Int.reduceToNat, Nat.reduceAdd, Nat.reduceBEq, Nat.reduceEqDiff, Nat.reduceLT, Nat.reduceLeDiff, Nat.reduceMul, Nat.reduceSub], by simp only [go_sem, ↓reduceIte, Int.reduceAdd, Int.reduceEq, Int.reduceLE, Int.reduceLT, Int.reduceMul, Int.reduceNeg, Int.reduceSub, Int.reduceToNat, Nat.reduceAdd, Nat.reduceBEq, Nat.reduceEqDiff, Nat.reduceLT, Nat.reduceLeDiff, Nat.reduceMul, Nat.reduceSub], AccS.nil0 _ 1 3, rfl, rfl⟩) ?_
  rintro ex ρ' ms' h1 d1 ⟨rfl, v5, k5, A, rfl, rfl⟩
  repeat (first | apply run_seq | apply run_block | apply end_seq | apply end_blk_hit | apply end_blk_miss rfl | apply end_blk | apply end_seq_exit | apply end_seq_ret | apply end_blk_ret | apply run_skip | apply run_ret | apply run_exit | (apply run_region (by decide); (simp only [go_sem, ↓reduceIte, Int.reduceAdd, Int.reduceEq, Int.reduceLE, Int.reduceLT, Int.reduceMul, Int.reduceNeg, Int.reduceSub, Int.reduceToNat, Nat.reduceAdd, Nat.reduceBEq, Nat.reduceEqDiff, Nat.reduceLT, Nat.reduceLeDiff, Nat.reduceMul, Nat.reduceSub, k5]; rfl)) | (refine run_cond_t ?_ ?_; · simp only [go_sem, ↓reduceIte, Nat.reduceEqDiff]) | (refine run_cond_f ?_ ?_; · simp only [go_sem, ↓reduceIte, Nat.reduceEqDiff]))
  refine end_nil (A.q1 rfl rfl ?_)
  simp only [go_sem, ↓reduceIte, Int.reduceAdd, Int.reduceEq, Int.reduceLE, Int.reduceLT, Int.reduceMul, Int.reduceNeg, Int.reduceSub, Int.reduceToNat, Nat.reduceAdd, Nat.reduceBEq, Nat.reduceEqDiff, Nat.reduceLT, Nat.reduceLeDiff, Nat.reduceMul, Nat.reduceSub, k5]

/-- Rests, Firm and Tips -/
theorem natV_sc (L : List Nat) : (natV L).all sc = true := by
  unfold natV
  exact mkI_sc _
theorem rests27 {h : SHeap} {v : Value} {l : List (Int × Int)} (hv : PS h v l) (T : Tame l) (test : Nat → Bool) (ht : ∀ i, test i = restB (mX l) (mY l) (mD l) (cn l i) (cn l ((i + 1) % l.length))) :
    M.call 27 [v] h = some (.tuple #[resV h ((List.range l.length).filter test).length 1, .int .i64 0], resH h (natV ((List.range l.length).filter test)) ((List.range l.length).filter test).length 3, []) := by
  have c69 := those69 hv T 70 71 test (fun h b hb => bound70 hb) (fun h b cb c i hb hi => by rw [ht i]; exact rests71 hb T.fine T.inr T.hi hi)
  have A := AccS.ofRes h 3 (cs := natV ((List.range l.length).filter test)) (n := ((List.range l.length).filter test).length) (s := 1) (by simp [natV]) (natV_sc _)
  obtain ⟨va, vc, rfl, -⟩ := hv
  generalize hu : resV h ((List.range l.length).filter test).length 1 = u at *
  refine call_run sf27 rfl rfl rfl ?_
  unfold sf27
  repeat (first | apply run_seq | apply run_block | apply end_seq | apply end_blk_hit | apply end_blk_miss rfl | apply end_blk | apply end_seq_exit | apply end_seq_ret | apply end_blk_ret | apply run_skip | apply run_ret | apply run_exit | (apply run_region (by decide); (simp only [go_sem, ↓reduceIte, Int.reduceAdd, Int.reduceEq, Int.reduceLE, Int.reduceLT, Int.reduceMul, Int.reduceNeg, Int.reduceSub, Int.reduceToNat, Nat.reduceAdd, Nat.reduceBEq, Nat.reduceEqDiff, Nat.reduceLT, Nat.reduceLeDiff, Nat.reduceMul, Nat.reduceSub, argR, c69]; rfl)) | (refine run_cond_t ?_ ?_; · simp only [go_sem, ↓reduceIte, Nat.reduceEqDiff]) | (refine run_cond_f ?_ ?_; · simp only [go_sem, ↓reduceIte, Nat.reduceEqDiff]))
  refine end_nil (A.at0.q2 (.int .i64 0) (by rw [hu]) rfl ?_ ?_ rfl)
  · simp only [go_sem, ↓reduceIte, Int.reduceAdd, Int.reduceEq, Int.reduceLE, Int.reduceLT, Int.reduceMul, Int.reduceNeg, Int.reduceSub, Int.reduceToNat, Nat.reduceAdd, Nat.reduceBEq, Nat.reduceEqDiff, Nat.reduceLT, Nat.reduceLeDiff, Nat.reduceMul, Nat.reduceSub]
  · simp only [go_sem, ↓reduceIte, Int.reduceAdd, Int.reduceEq, Int.reduceLE, Int.reduceLT, Int.reduceMul, Int.reduceNeg, Int.reduceSub, Int.reduceToNat, Nat.reduceAdd, Nat.reduceBEq, Nat.reduceEqDiff, Nat.reduceLT, Nat.reduceLeDiff, Nat.reduceMul, Nat.reduceSub]

theorem firm37 {h : SHeap} {v : Value} {l : List (Int × Int)} (hv : PS h v l) (T : Tame l) (test : Nat → Bool) (ht : ∀ i, test i = firmB (mX l) (mY l) (mD l) (cn l i) (cn l ((i + 1) % l.length))) :
    M.call 37 [v] h = some (.tuple #[resV h ((List.range l.length).filter test).length 1, .int .i64 0], resH h (natV ((List.range l.length).filter test)) ((List.range l.length).filter test).length 3, []) := by
  have c69 := those69 hv T 74 75 test (fun h b hb => bound74 hb) (fun h b cb c i hb hi => by rw [ht i]; exact firm75 hb T.fine T.inr T.hi hi)
  have A := AccS.ofRes h 3 (cs := natV ((List.range l.length).filter test)) (n := ((List.range l.length).filter test).length) (s := 1) (by simp [natV]) (natV_sc _)
  obtain ⟨va, vc, rfl, -⟩ := hv
  generalize hu : resV h ((List.range l.length).filter test).length 1 = u at *
  refine call_run sf37 rfl rfl rfl ?_
  unfold sf37
  repeat (first | apply run_seq | apply run_block | apply end_seq | apply end_blk_hit | apply end_blk_miss rfl | apply end_blk | apply end_seq_exit | apply end_seq_ret | apply end_blk_ret | apply run_skip | apply run_ret | apply run_exit | (apply run_region (by decide); (simp only [go_sem, ↓reduceIte, Int.reduceAdd, Int.reduceEq, Int.reduceLE, Int.reduceLT, Int.reduceMul, Int.reduceNeg, Int.reduceSub, Int.reduceToNat, Nat.reduceAdd, Nat.reduceBEq, Nat.reduceEqDiff, Nat.reduceLT, Nat.reduceLeDiff, Nat.reduceMul, Nat.reduceSub, argR, c69]; rfl)) | (refine run_cond_t ?_ ?_; · simp only [go_sem, ↓reduceIte, Nat.reduceEqDiff]) | (refine run_cond_f ?_ ?_; · simp only [go_sem, ↓reduceIte, Nat.reduceEqDiff]))
  refine end_nil (A.at0.q2 (.int .i64 0) (by rw [hu]) rfl ?_ ?_ rfl)
  · simp only [go_sem, ↓reduceIte, Int.reduceAdd, Int.reduceEq, Int.reduceLE, Int.reduceLT, Int.reduceMul, Int.reduceNeg, Int.reduceSub, Int.reduceToNat, Nat.reduceAdd, Nat.reduceBEq, Nat.reduceEqDiff, Nat.reduceLT, Nat.reduceLeDiff, Nat.reduceMul, Nat.reduceSub]
  · simp only [go_sem, ↓reduceIte, Int.reduceAdd, Int.reduceEq, Int.reduceLE, Int.reduceLT, Int.reduceMul, Int.reduceNeg, Int.reduceSub, Int.reduceToNat, Nat.reduceAdd, Nat.reduceBEq, Nat.reduceEqDiff, Nat.reduceLT, Nat.reduceLeDiff, Nat.reduceMul, Nat.reduceSub]

theorem tips38 {h : SHeap} {v : Value} {l : List (Int × Int)} (hv : PS h v l) (T : Tame l) (test : Nat → Bool) (ht : ∀ i, test i = tipB (mX l) (mY l) (mD l) (cn l i) (cn l ((i + 1) % l.length)) (cn l ((i + l.length - 1) % l.length))) :
    M.call 38 [v] h = some (.tuple #[resV h ((List.range l.length).filter test).length 1, .int .i64 0], resH h (natV ((List.range l.length).filter test)) ((List.range l.length).filter test).length 3, []) := by
  have c69 := those69 hv T 76 77 test (fun h b hb => bound76 hb) (fun h b cb c i hb hi => by rw [ht i]; exact tip77 hb T.fine T.inr T.hi hi)
  have A := AccS.ofRes h 3 (cs := natV ((List.range l.length).filter test)) (n := ((List.range l.length).filter test).length) (s := 1) (by simp [natV]) (natV_sc _)
  obtain ⟨va, vc, rfl, -⟩ := hv
  generalize hu : resV h ((List.range l.length).filter test).length 1 = u at *
  refine call_run sf38 rfl rfl rfl ?_
  unfold sf38
  repeat (first | apply run_seq | apply run_block | apply end_seq | apply end_blk_hit | apply end_blk_miss rfl | apply end_blk | apply end_seq_exit | apply end_seq_ret | apply end_blk_ret | apply run_skip | apply run_ret | apply run_exit | (apply run_region (by decide); (simp only [go_sem, ↓reduceIte, Int.reduceAdd, Int.reduceEq, Int.reduceLE, Int.reduceLT, Int.reduceMul, Int.reduceNeg, Int.reduceSub, Int.reduceToNat, Nat.reduceAdd, Nat.reduceBEq, Nat.reduceEqDiff, Nat.reduceLT, Nat.reduceLeDiff, Nat.reduceMul, Nat.reduceSub, argR, c69]; rfl)) | (refine run_cond_t ?_ ?_; · simp only [go_sem, ↓reduceIte, Nat.reduceEqDiff]) | (refine run_cond_f ?_ ?_; · simp only [go_sem, ↓reduceIte, Nat.reduceEqDiff]))
  refine end_nil (A.at0.q2 (.int .i64 0) (by rw [hu]) rfl ?_ ?_ rfl)
  · simp only [go_sem, ↓reduceIte, Int.reduceAdd, Int.reduceEq, Int.reduceLE, Int.reduceLT, Int.reduceMul, Int.reduceNeg, Int.reduceSub, Int.reduceToNat, Nat.reduceAdd, Nat.reduceBEq, Nat.reduceEqDiff, Nat.reduceLT, Nat.reduceLeDiff, Nat.reduceMul, Nat.reduceSub]
  · simp only [go_sem, ↓reduceIte, Int.reduceAdd, Int.reduceEq, Int.reduceLE, Int.reduceLT, Int.reduceMul, Int.reduceNeg, Int.reduceSub, Int.reduceToNat, Nat.reduceAdd, Nat.reduceBEq, Nat.reduceEqDiff, Nat.reduceLT, Nat.reduceLeDiff, Nat.reduceMul, Nat.reduceSub]

theorem ints_loop (cx : Cx) {h : SHeap} {v w : Value} {a b : List Int} (hv : IS h v a) (hw : IS h w b) (hab : a.length = b.length) (hs : a.length < 4611686018427387904) : ∀ k ρ ms h' d', (∃ i : Nat, i + k = a.length ∧ ρ 0 = v ∧ ρ 1 = w ∧ ρ 5 = .int .i64 i ∧ a.take i = b.take i ∧ ms = [] ∧ h' = h ∧ d' = []) →
    LoopW M cx 5 sf39L0 ρ ms h' d' (fun ex ρ' ms' h' d' => ms' = [] ∧ h' = h ∧ d' = [] ∧ ((ex = .exit 0 ∧ a = b) ∨ (ex = .ret ∧ ρ' 4 = .bool false ∧ a ≠ b))) := by
  obtain ⟨va, ca, rfl, ka⟩ := hv
  obtain ⟨vb, cb, rfl, kb⟩ := hw
  refine loop_run _ ?_
  rintro k ρ ms h' d' ⟨i, hi, h0, h1, h5, he, rfl, rfl, rfl⟩
  unfold sf39L0
  by_cases hk : k = 0
  · have e1 : ¬ ((i : Int) < a.length) := by omega
    have ei : i = a.length := by omega
    repeat (first | apply run_seq | apply run_block | apply end_seq | apply end_blk_hit | apply end_blk_miss rfl | apply end_blk | apply end_seq_exit | apply end_seq_ret | apply end_blk_ret | apply run_skip | apply run_ret | apply run_exit | (apply run_region (by decide); (simp only [go_sem, ↓reduceIte, Int.reduceAdd, Int.reduceEq, Int.reduceLE, Int.reduceLT, Int.reduceMul, Int.reduceNeg, Int.reduceSub, Int.reduceToNat, Nat.reduceAdd, Nat.reduceBEq, Nat.reduceEqDiff, Nat.reduceLT, Nat.reduceLeDiff, Nat.reduceMul, Nat.reduceSub, h0, h1, h5, e1]; rfl)) | (refine run_cond_t ?_ ?_; · simp only [go_sem, ↓reduceIte, Nat.reduceEqDiff]) | (refine run_cond_f ?_ ?_; · simp only [go_sem, ↓reduceIte, Nat.reduceEqDiff]))
    refine end_nil ⟨rfl, rfl, rfl, .inl ⟨rfl, ?_⟩⟩
    rw [ei, List.take_length, hab, List.take_length] at he
    exact he
  · have e1 : (i : Int) < a.length := by omega
    have e3 : (i : Int) < b.length := by omega
    have e2 : (0 : Int) ≤ i := by omega
    have hia : i < a.length := by omega
    have hib : i < b.length := by omega
    have ew : IntKind.i64.wrap ((i : Int) + 1) = ((i + 1 : Nat) : Int) := by rw [wrap64 (by omega) (by omega)]; rfl
    obtain ⟨ba, rfl, pa⟩ := ka (by intro e; rw [e] at hia; simp at hia)
    obtain ⟨bb, rfl, pb⟩ := kb (by intro e; rw [e] at hib; simp at hib)
    have l1 := pa.load hia
    have l2 := pb.load hib
    have t1 : a.take (i + 1) = a.take i ++ [a[i]] := by rw [List.take_add_one, List.getElem?_eq_getElem hia]; rfl
    have t2 : b.take (i + 1) = b.take i ++ [b[i]] := by rw [List.take_add_one, List.getElem?_eq_getElem hib]; rfl
    have hne : a[i] ≠ b[i] → a ≠ b := fun h1 h2 => h1 (by subst h2; rfl)
    generalize a[i] = p at *
    generalize b[i] = q at *
    by_cases hpq : p = q
    · subst hpq
      repeat (first | apply run_seq | apply run_block | apply end_seq | apply end_blk_hit | apply end_blk_miss rfl | apply end_blk | apply end_seq_exit | apply end_seq_ret | apply end_blk_ret | apply run_skip | apply run_ret | apply run_exit | (apply run_region (by decide); (simp only [go_sem, ↓reduceIte, Int.reduceAdd, Int.reduceEq, Int.reduceLE, Int.reduceLT, Int.reduceMul, Int.reduceNeg, Int.reduceSub, Int.reduceToNat, Nat.reduceAdd, Nat.reduceBEq, Nat.reduceEqDiff, Nat.reduceLT, Nat.reduceLeDiff, Nat.reduceMul, Nat.reduceSub, h0, h1, h5, e1, e2, e3, l1, l2, ew, Int.toNat_natCast]; rfl)) | (refine run_cond_t ?_ ?_; · simp only [go_sem, ↓reduceIte, Nat.reduceEqDiff]) | (refine run_cond_f ?_ ?_; · simp only [go_sem, ↓reduceIte, Nat.reduceEqDiff]))
      refine end_nil ⟨k - 1, by omega, i + 1, by omega, ?_, ?_, ?_, by rw [t1, t2, he], rfl, rfl, rfl⟩
      · simp only [go_sem, ↓reduceIte, Int.reduceAdd, Int.reduceEq, Int.reduceLE, Int.reduceLT, Int.reduceMul, Int.reduceNeg, Int.reduceSub, Int.reduceToNat, Nat.reduceAdd, Nat.reduceBEq, Nat.reduceEqDiff, Nat.reduceLT, Nat.reduceLeDiff, Nat.reduceMul, Nat.reduceSub, h0]
      · simp only [go_sem, ↓reduceIte, Int.reduceAdd, Int.reduceEq, Int.reduceLE, Int.reduceLT, Int.reduceMul, Int.reduceNeg, Int.reduceSub, Int.reduceToNat, Nat.reduceAdd, Nat.reduceBEq, Nat.reduceEqDiff, Nat.reduceLT, Nat.reduceLeDiff, Nat.reduceMul, Nat.reduceSub, h1]
      · simp only [go_sem, ↓reduceIte, Int.reduceAdd, Int.reduceEq, Int.reduceLE, Int.reduceLT, Int.reduceMul, Int.reduceNeg, Int.reduceSub, Int.reduceToNat, Nat.reduceAdd, Nat.reduceBEq, Nat.reduceEqDiff, Nat.reduceLT, Nat.reduceLeDiff, Nat.reduceMul, Nat.reduceSub, ew]
    · repeat (first | apply run_seq | apply run_block | apply end_seq | apply end_blk_hit | apply end_blk_miss rfl | apply end_blk | apply end_seq_exit | apply end_seq_ret | apply end_blk_ret | apply run_skip | apply run_ret | apply run_exit | (apply run_region (by decide); (simp only [go_sem, ↓reduceIte, Int.reduceAdd, Int.reduceEq, Int.reduceLE, Int.reduceLT, Int.reduceMul, Int.reduceNeg, Int.reduceSub, Int.reduceToNat, Nat.reduceAdd, Nat.reduceBEq, Nat.reduceEqDiff, Nat.reduceLT, Nat.reduceLeDiff, Nat.reduceMul, Nat.reduceSub, h0, h1, h5, e1, e2, e3, l1, l2, hpq, ew, Int.toNat_natCast]; rfl)) | (refine run_cond_t ?_ ?_; · simp only [go_sem, ↓reduceIte, Nat.reduceEqDiff]) | (refine run_cond_f ?_ ?_; · simp only [go_sem, ↓reduceIte, Nat.reduceEqDiff]))
      refine end_nil ⟨rfl, rfl, rfl, .inr ⟨rfl, ?_, hne hpq⟩⟩
      simp only [go_sem, ↓reduceIte, Int.reduceAdd, Int.reduceEq, Int.reduceLE, Int.reduceLT, Int.reduceMul, Int.reduceNeg, Int.reduceSub, Int.reduceToNat, Nat.reduceAdd, Nat.reduceBEq, Nat.reduceEqDiff, Nat.reduceLT, Nat.reduceLeDiff, Nat.reduceMul, Nat.reduceSub]

/-- ints: are these slices of integers equal? -/
theorem ints39 {h : SHeap} {v w : Value} {a b : List Int} (hv : IS h v a) (hw : IS h w b) (hs : a.length < 4611686018427387904) : M.call 39 [v, w] h = some (.bool (decide (a = b)), h, []) := by
  have hv0 := hv
  have hw0 := hw
  obtain ⟨va, ca, rfl, ka⟩ := hv
  obtain ⟨vb, cb, rfl, kb⟩ := hw
  refine call_run sf39 rfl rfl rfl ?_
  unfold sf39
  by_cases hab : a.length = b.length
  · have e1 : ((a.length : Int) = b.length) := by omega
    repeat (first | apply run_seq | apply run_block | apply end_seq | apply end_blk_hit | apply end_blk_miss rfl | apply end_blk | apply end_seq_exit | apply end_seq_ret | apply end_blk_ret | apply run_skip | apply run_ret | apply run_exit | (apply run_region (by decide); (simp only [go_sem, ↓reduceIte, Int.reduceAdd, Int.reduceEq, Int.reduceLE, Int.reduceLT, Int.reduceMul, Int.reduceNeg, Int.reduceSub, Int.reduceToNat, Nat.reduceAdd, Nat.reduceBEq, Nat.reduceEqDiff, Nat.reduceLT, Nat.reduceLeDiff, Nat.reduceMul, Nat.reduceSub, argR, e1]; rfl)) | (refine run_cond_t ?_ ?_; · simp only [go_sem, ↓reduceIte, Nat.reduceEqDiff]) | (refine run_cond_f ?_ ?_; · simp only [go_sem, ↓reduceIte, Nat.reduceEqDiff]))
    refine run_loop (ints_loop _ hv0 hw0 hab hs a.length _ _ _ _ ⟨0, by omega, by simp only [go_sem, ↓reduceIte, Int.reduceAdd, Int.reduceEq, Int.reduceLE, Int.reduceLT, Int.reduceMul, Int.reduceNeg, Int.reduceSub, Int.reduceToNat, Nat.reduceAdd, Nat.reduceBEq, Nat.reduceEqDiff, Nat.reduceLT, Nat.reduceLeDiff, Nat.reduceMul, Nat.reduceSub, argR, e1], by simp only [go_sem, ↓reduceIte, Int.reduceAdd, Int.reduceEq, Int.reduceLE, Int.reduceLT, Int.reduceMul, Int.reduceNeg, Int.reduceSub, Int.reduceToNat, Nat.reduceAdd, Nat.reduceBEq, Nat.reduceEqDiff, Nat.reduceLT, Nat.reduceLeDiff, Nat.reduceMul, Nat.reduceSub, argR], by simp only [go_sem, ↓reduceIte, Int.reduceAdd, Int.reduceEq, Int.reduceLE, Int.reduceLT, Int.reduceMul, Int.reduceNeg, Int.reduceSub, Int.reduceToNat, Nat.reduceAdd, Nat.reduceBEq, Nat.reduceEqDiff, Nat.reduceLT, Nat.reduceLeDiff, Nat.reduceMul, Nat.reduceSub], by simp, rfl, rfl, rfl⟩) ?_
    rintro ex ρ' ms' h1 d1 ⟨rfl, rfl, rfl, ⟨rfl, he⟩ | ⟨rfl, h4, he⟩⟩
    · rw [decide_eq_true he]
      repeat (first | apply run_seq | apply run_block | apply end_seq | apply end_blk_hit | apply end_blk_miss rfl | apply end_blk | apply end_seq_exit | apply end_seq_ret | apply end_blk_ret | apply run_skip | apply run_ret | apply run_exit | (apply run_region (by decide); (simp only [go_sem, ↓reduceIte, Int.reduceAdd, Int.reduceEq, Int.reduceLE, Int.reduceLT, Int.reduceMul, Int.reduceNeg, Int.reduceSub, Int.reduceToNat, Nat.reduceAdd, Nat.reduceBEq, Nat.reduceEqDiff, Nat.reduceLT, Nat.reduceLeDiff, Nat.reduceMul, Nat.reduceSub]; rfl)) | (refine run_cond_t ?_ ?_; · simp only [go_sem, ↓reduceIte, Nat.reduceEqDiff]) | (refine run_cond_f ?_ ?_; · simp only [go_sem, ↓reduceIte, Nat.reduceEqDiff]))
      exact end_nil (q_ret1 _ (by simp only [go_sem, ↓reduceIte, Int.reduceAdd, Int.reduceEq, Int.reduceLE, Int.reduceLT, Int.reduceMul, Int.reduceNeg, Int.reduceSub, Int.reduceToNat, Nat.reduceAdd, Nat.reduceBEq, Nat.reduceEqDiff, Nat.reduceLT, Nat.reduceLeDiff, Nat.reduceMul, Nat.reduceSub]) rfl (take_self _))
    · rw [decide_eq_false he]
      repeat (first | apply run_seq | apply run_block | apply end_seq | apply end_blk_hit | apply end_blk_miss rfl | apply end_blk | apply end_seq_exit | apply end_seq_ret | apply end_blk_ret | apply run_skip | apply run_ret | apply run_exit | (apply run_region (by decide); (simp only [go_sem, ↓reduceIte, Int.reduceAdd, Int.reduceEq, Int.reduceLE, Int.reduceLT, Int.reduceMul, Int.reduceNeg, Int.reduceSub, Int.reduceToNat, Nat.reduceAdd, Nat.reduceBEq, Nat.reduceEqDiff, Nat.reduceLT, Nat.reduceLeDiff, Nat.reduceMul, Nat.reduceSub]; rfl)) | (refine run_cond_t ?_ ?_; · simp only [go_sem, ↓reduceIte, Nat.reduceEqDiff]) | (refine run_cond_f ?_ ?_; · simp only [go_sem, ↓reduceIte, Nat.reduceEqDiff]))
      exact end_nil (q_ret1 _ h4 rfl (take_self _))
  · have e1 : ¬ ((a.length : Int) = b.length) := by omega
    have he : a ≠ b := fun e => hab (by rw [e])
    rw [decide_eq_false he]
    repeat (first | apply run_seq | apply run_block | apply end_seq | apply end_blk_hit | apply end_blk_miss rfl | apply end_blk | apply end_seq_exit | apply end_seq_ret | apply end_blk_ret | apply run_skip | apply run_ret | apply run_exit | (apply run_region (by decide); (simp only [go_sem, ↓reduceIte, Int.reduceAdd, Int.reduceEq, Int.reduceLE, Int.reduceLT, Int.reduceMul, Int.reduceNeg, Int.reduceSub, Int.reduceToNat, Nat.reduceAdd, Nat.reduceBEq, Nat.reduceEqDiff, Nat.reduceLT, Nat.reduceLeDiff, Nat.reduceMul, Nat.reduceSub, argR, e1]; rfl)) | (refine run_cond_t ?_ ?_; · simp only [go_sem, ↓reduceIte, Nat.reduceEqDiff]) | (refine run_cond_f ?_ ?_; · simp only [go_sem, ↓reduceIte, Nat.reduceEqDiff]))
    exact end_nil (q_ret1 _ (by simp only [go_sem, ↓reduceIte, Int.reduceAdd, Int.reduceEq, Int.reduceLE, Int.reduceLT, Int.reduceMul, Int.reduceNeg, Int.reduceSub, Int.reduceToNat, Nat.reduceAdd, Nat.reduceBEq, Nat.reduceEqDiff, Nat.reduceLT, Nat.reduceLeDiff, Nat.reduceMul, Nat.reduceSub]) rfl (take_self _))

/-- a result of numbers, in any longer heap -/
theorem IS.ofRes (h g : SHeap) (L : List Nat) (el : TypeId) : IS (resH h (natV L) L.length el ++ g) (resV h L.length 1) (L.map fun (i : Nat) => (i : Int)) := by
  by_cases hn : L.length = 0
  · have : L = [] := by cases L <;> simp_all
    subst this
    exact ⟨none, 0, rfl, fun h => (h rfl).elim⟩
  · simp only [resH, resV, hn, if_false]
    refine ⟨_, _, by rw [List.length_map], fun _ => ⟨_, rfl, el, true, 0, [], ?_, rfl⟩⟩
    rw [List.append_assoc, app_get0]; rfl
theorem IS.app {h : SHeap} {v : Value} {l : List Int} (k : IS h v l) (g : SHeap) : IS (h ++ g) v l := by
  obtain ⟨a, c, rfl, k⟩ := k
  exact ⟨a, c, rfl, fun hn => let ⟨b, e, p⟩ := k hn; ⟨b, e, p.app g⟩⟩
theorem IS.shape {h : SHeap} {v : Value} {l : List Int} (k : IS h v l) : ∃ a c, v = .slice a l.length c := by
  obtain ⟨a, c, rfl, _⟩ := k; exact ⟨_, _, rfl⟩

/-- the three tests -/
def tRest (l : List (Int × Int)) (i : Nat) : Bool := restB (mX l) (mY l) (mD l) (cn l i) (cn l ((i + 1) % l.length))
def tFirm (l : List (Int × Int)) (i : Nat) : Bool := firmB (mX l) (mY l) (mD l) (cn l i) (cn l ((i + 1) % l.length))
def tTip (l : List (Int × Int)) (i : Nat) : Bool := tipB (mX l) (mY l) (mD l) (cn l i) (cn l ((i + 1) % l.length)) (cn l ((i + l.length - 1) % l.length))
def those (l : List (Int × Int)) (test : Nat → Bool) : List Nat := (List.range l.length).filter test
theorem those_len (l : List (Int × Int)) (test : Nat → Bool) : (those l test).length ≤ l.length := filter_le _ _

/-- a call that returns numbers: its result and its heap -/
theorem nums_ex {f : FuncId} {args : List Value} {h : SHeap} {L : List Nat} {e : Value → Value} (c : M.call f args h = some (e (resV h L.length 1), resH h (natV L) L.length 3, [])) :
    ∃ u g, M.call f args h = some (e u, h ++ g, []) ∧ IS (h ++ g) u (L.map fun (i : Nat) => (i : Int)) := by
  obtain ⟨g, hg⟩ := resH_app h (natV L) L.length 3
  refine ⟨resV h L.length 1, g, by rw [c, hg], ?_⟩
  have := IS.ofRes h [] L 3
  rw [hg, List.append_nil] at this
  exact this

/-- the law of the rests -/
theorem law8 {h : SHeap} {v : Value} {l : List (Int × Int)} (hv : ArgS h v l) (z : Int) : M.call 8 [v, .int .i64 z] h = some (.bool true, h, []) := by
  obtain ⟨T, c, tm, hc, c18⟩ := tame18 hv z
  have hp : PS (h ++ [SO.cells (prs T) 53 true 0 []]) (.slice (some ⟨h.length, 0, none⟩) T.length c) T := ⟨_, _, rfl, fun _ => ⟨_, _, rfl, Prs.mk0 (by rw [app_get0]; rfl) rfl⟩⟩
  have hb : ∀ t, ((those T t).map fun (i : Nat) => (i : Int)).length < 4611686018427387904 := fun t => by rw [List.length_map]; have := those_len T t; have := tm.hi; omega
  obtain ⟨u1, g1, c27, i1⟩ := nums_ex (e := fun u => .tuple #[u, .int .i64 0]) (L := those T (tRest T)) (rests27 hp tm (tRest T) (fun _ => rfl))
  have hp1 := hp.app g1
  obtain ⟨u2, g2, c37, i2⟩ := nums_ex (e := fun u => .tuple #[u, .int .i64 0]) (L := those T (tFirm T)) (firm37 hp1 tm (tFirm T) (fun _ => rfl))
  have hp2 := hp1.app g2
  obtain ⟨u3, g3, c38, i3⟩ := nums_ex (e := fun u => .tuple #[u, .int .i64 0]) (L := those T (tTip T)) (tips38 hp2 tm (tTip T) (fun _ => rfl))
  have hp3 := hp2.app g3
  obtain ⟨u4, g4, c40, i4⟩ := nums_ex (e := fun u => u) (L := those T (tRest T)) (restsR40 hp3 tm false (tRest T) (fun _ => rfl))
  have d1 := ints39 ((((i1.app g2).app g3).app g4)) i4 (hb _)
  have hp4 := hp3.app g4
  obtain ⟨u5, g5, c40', i5⟩ := nums_ex (e := fun u => u) (L := those T (tFirm T)) (restsR40 hp4 tm true (tFirm T) (fun _ => rfl))
  have d2 := ints39 (((i2.app g3).app g4).app g5) i5 (hb _)
  have hp5 := hp4.app g5
  obtain ⟨u6, g6, c41, i6⟩ := nums_ex (e := fun u => u) (L := those T (tTip T)) (tipsR41 hp5 tm (tTip T) (fun _ => rfl))
  have d3 := ints39 (((i3.app g4).app g5).app g6) i6 (hb _)
  rw [decide_eq_true rfl] at d1 d2 d3
  simp only [List.append_assoc, List.cons_append, List.nil_append] at *
  obtain ⟨s1, t1, rfl⟩ := i1.shape
  obtain ⟨s2, t2, rfl⟩ := i2.shape
  obtain ⟨s3, t3, rfl⟩ := i3.shape
  obtain ⟨s4, t4, rfl⟩ := i4.shape
  obtain ⟨s5, t5, rfl⟩ := i5.shape
  obtain ⟨s6, t6, rfl⟩ := i6.shape
  refine call_run sf8 rfl rfl rfl ?_
  unfold sf8
  repeat (first | apply run_seq | apply run_block | apply end_seq | apply end_blk_hit | apply end_blk_miss rfl | apply end_blk | apply end_seq_exit | apply end_seq_ret | apply end_blk_ret | apply run_skip | apply run_ret | apply run_exit | (apply run_region (by decide); (simp only [go_sem, ↓reduceIte, Int.reduceAdd, Int.reduceEq, Int.reduceLE, Int.reduceLT, Int.reduceMul, Int.reduceNeg, Int.reduceSub, Int.reduceToNat, Nat.reduceAdd, Nat.reduceBEq, Nat.reduceEqDiff, Nat.reduceLT, Nat.reduceLeDiff, Nat.reduceMul, Nat.reduceSub, argR, c18, c27, c37, c38, c40, c40', c41, d1, d2, d3, awake_call]; rfl)) | (refine run_cond_t ?_ ?_; · simp only [go_sem, ↓reduceIte, Nat.reduceEqDiff]) | (refine run_cond_f ?_ ?_; · simp only [go_sem, ↓reduceIte, Nat.reduceEqDiff]))
  exact end_nil (q_ret1 _ (by simp only [go_sem, ↓reduceIte, Int.reduceAdd, Int.reduceEq, Int.reduceLE, Int.reduceLT, Int.reduceMul, Int.reduceNeg, Int.reduceSub, Int.reduceToNat, Nat.reduceAdd, Nat.reduceBEq, Nat.reduceEqDiff, Nat.reduceLT, Nat.reduceLeDiff, Nat.reduceMul, Nat.reduceSub]) rfl (take_app _ _))
end Go.Proofs.Ytecncmmkghmojaa.Sh

