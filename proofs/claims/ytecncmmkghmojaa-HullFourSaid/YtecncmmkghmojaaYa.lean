/- The law of four turns. -/
import Derived.Test.YtecncmmkghmojaaXz
set_option linter.all false
namespace Go.Proofs.Ytecncmmkghmojaa.Sh
open Go Geo
set_option maxRecDepth 100000

/-- turned i times -/
def trnN (l : List (Int × Int)) : Nat → List (Int × Int)
  | 0 => l
  | i + 1 => (trnN l i).map trn
theorem trnN_len (l : List (Int × Int)) : ∀ i, (trnN l i).length = l.length
  | 0 => rfl
  | i + 1 => by rw [trnN, List.length_map, trnN_len l i]
theorem trnN_tame {l : List (Int × Int)} (T : Tame l) : ∀ i, Tame (trnN l i)
  | 0 => T
  | i + 1 => tame_trn (trnN_tame T i)
theorem trnN_ln (l : List (Int × Int)) (s : Nat) : ∀ i, lnA (trnN l i) s = lnA l s ∧ lnB (trnN l i) s = lnB l s ∧ lnG (trnN l i) s = lnG l s
  | 0 => ⟨rfl, rfl, rfl⟩
  | i + 1 => by
    obtain ⟨h1, h2, h3⟩ := trnN_ln l s i
    exact ⟨by rw [trnN, lnA_trn, h1], by rw [trnN, lnB_trn, h2], by rw [trnN, lnG_trn, h3]⟩
theorem trnN_tests (l : List (Int × Int)) : ∀ i, tRest (trnN l i) = tRest l ∧ tTip (trnN l i) = tTip l
  | 0 => ⟨rfl, rfl⟩
  | i + 1 => by
    obtain ⟨h1, h2⟩ := trnN_tests l i
    exact ⟨by rw [← h1]; exact funext fun s => tRest_trn _ s, by rw [← h2]; exact funext fun s => tTip_trn _ s⟩
theorem trnN_4 (l : List (Int × Int)) : trnN l 4 = l := trn4 l

theorem leans_loop (cx : Cx) {H : SHeap} {x y : Value} {l m : List (Int × Int)} (hx : PS H x l) (hy : PS H y m) (T : Tame l) (U : Tame m) (hlm : m.length = l.length) (he : ∀ s, lnA m s = lnA l s ∧ lnB m s = lnB l s ∧ lnG m s = lnG l s) (ρ0 : Reg) :
    ∀ k ρ ms h' d', (∃ s : Nat, s + k = l.length ∧ ρ 5 = x ∧ ρ 6 = .int .i64 l.length ∧ ρ 7 = y ∧ ρ 8 = ρ0 8 ∧ ρ 10 = ρ0 10 ∧ ρ 12 = ρ0 12 ∧ ρ 14 = ρ0 14 ∧ ρ 1 = ρ0 1 ∧ ρ 21 = .int .i64 s ∧ Ext H h' ∧ ms = [] ∧ d' = []) →
    LoopW M cx 8 sf12L1 ρ ms h' d' (fun ex ρ' ms' h' d' => ex = .exit 2 ∧ ρ' 5 = x ∧ ρ' 6 = .int .i64 l.length ∧ ρ' 7 = y ∧ ρ' 8 = ρ0 8 ∧ ρ' 10 = ρ0 10 ∧ ρ' 12 = ρ0 12 ∧ ρ' 14 = ρ0 14 ∧ ρ' 1 = ρ0 1 ∧ Ext H h' ∧ ms' = [] ∧ d' = []) := by
  have hn := T.hi
  refine loop_run _ ?_
  rintro k ρ ms h' d' ⟨s, hs, h5, h6, h7, h8, h10, h12, h14, h1, h21, E, rfl, rfl⟩
  unfold sf12L1
  by_cases hk : k = 0
  · have e1 : ¬ ((s : Int) < l.length) := by omega
    repeat (first | apply run_seq | apply run_block | apply end_seq | apply end_blk_hit | apply end_blk_miss rfl | apply end_blk | apply end_seq_exit | apply end_seq_ret | apply end_blk_ret | apply run_skip | apply run_ret | apply run_exit | (apply run_region (by decide); (simp only [go_sem, ↓reduceIte, Int.reduceAdd, Int.reduceEq, Int.reduceLE, Int.reduceLT, Int.reduceMul, Int.reduceNeg, Int.reduceSub, Int.reduceToNat, Nat.reduceAdd, Nat.reduceBEq, Nat.reduceEqDiff, Nat.reduceLT, Nat.reduceLeDiff, Nat.reduceMul, Nat.reduceSub, h6, h21, e1]; rfl)) | (refine run_cond_t ?_ ?_; · simp only [go_sem, ↓reduceIte, Nat.reduceEqDiff]) | (refine run_cond_f ?_ ?_; · simp only [go_sem, ↓reduceIte, Nat.reduceEqDiff]))
    refine end_nil ⟨rfl, ?_, ?_, ?_, ?_, ?_, ?_, ?_, ?_, E, rfl, rfl⟩
    · simp only [go_sem, ↓reduceIte, Int.reduceAdd, Int.reduceEq, Int.reduceLE, Int.reduceLT, Int.reduceMul, Int.reduceNeg, Int.reduceSub, Int.reduceToNat, Nat.reduceAdd, Nat.reduceBEq, Nat.reduceEqDiff, Nat.reduceLT, Nat.reduceLeDiff, Nat.reduceMul, Nat.reduceSub, h5]
    · simp only [go_sem, ↓reduceIte, Int.reduceAdd, Int.reduceEq, Int.reduceLE, Int.reduceLT, Int.reduceMul, Int.reduceNeg, Int.reduceSub, Int.reduceToNat, Nat.reduceAdd, Nat.reduceBEq, Nat.reduceEqDiff, Nat.reduceLT, Nat.reduceLeDiff, Nat.reduceMul, Nat.reduceSub, h6]
    · simp only [go_sem, ↓reduceIte, Int.reduceAdd, Int.reduceEq, Int.reduceLE, Int.reduceLT, Int.reduceMul, Int.reduceNeg, Int.reduceSub, Int.reduceToNat, Nat.reduceAdd, Nat.reduceBEq, Nat.reduceEqDiff, Nat.reduceLT, Nat.reduceLeDiff, Nat.reduceMul, Nat.reduceSub, h7]
    · simp only [go_sem, ↓reduceIte, Int.reduceAdd, Int.reduceEq, Int.reduceLE, Int.reduceLT, Int.reduceMul, Int.reduceNeg, Int.reduceSub, Int.reduceToNat, Nat.reduceAdd, Nat.reduceBEq, Nat.reduceEqDiff, Nat.reduceLT, Nat.reduceLeDiff, Nat.reduceMul, Nat.reduceSub, h8]
    · simp only [go_sem, ↓reduceIte, Int.reduceAdd, Int.reduceEq, Int.reduceLE, Int.reduceLT, Int.reduceMul, Int.reduceNeg, Int.reduceSub, Int.reduceToNat, Nat.reduceAdd, Nat.reduceBEq, Nat.reduceEqDiff, Nat.reduceLT, Nat.reduceLeDiff, Nat.reduceMul, Nat.reduceSub, h10]
    · simp only [go_sem, ↓reduceIte, Int.reduceAdd, Int.reduceEq, Int.reduceLE, Int.reduceLT, Int.reduceMul, Int.reduceNeg, Int.reduceSub, Int.reduceToNat, Nat.reduceAdd, Nat.reduceBEq, Nat.reduceEqDiff, Nat.reduceLT, Nat.reduceLeDiff, Nat.reduceMul, Nat.reduceSub, h12]
    · simp only [go_sem, ↓reduceIte, Int.reduceAdd, Int.reduceEq, Int.reduceLE, Int.reduceLT, Int.reduceMul, Int.reduceNeg, Int.reduceSub, Int.reduceToNat, Nat.reduceAdd, Nat.reduceBEq, Nat.reduceEqDiff, Nat.reduceLT, Nat.reduceLeDiff, Nat.reduceMul, Nat.reduceSub, h14]
    · simp only [go_sem, ↓reduceIte, Int.reduceAdd, Int.reduceEq, Int.reduceLE, Int.reduceLT, Int.reduceMul, Int.reduceNeg, Int.reduceSub, Int.reduceToNat, Nat.reduceAdd, Nat.reduceBEq, Nat.reduceEqDiff, Nat.reduceLT, Nat.reduceLeDiff, Nat.reduceMul, Nat.reduceSub, h1]
  · have e1 : (s : Int) < l.length := by omega
    have hsl : s < l.length := by omega
    have ew : IntKind.i64.wrap ((s : Int) + 1) = ((s + 1 : Nat) : Int) := by rw [wrap64 (by omega) (by omega)]; rfl
    obtain ⟨e2, e3, e4⟩ := he s
    have E0 := E
    obtain ⟨g, rfl⟩ := E
    have c29x := lean29 (hx.app g) T hsl
    have c29y := fun e => lean29 ((hy.app g).app e) U (show s < m.length by omega)
    rw [e2, e3, e4] at c29y
    generalize (lnA l s).tdiv (lnG l s) = A at *
    generalize (lnB l s).tdiv (lnG l s) = B at *
    have E2 := E0.app [SO.cells [.int .i64 A, .int .i64 B] 34 true 0 [], .cells [.int .i64 A, .int .i64 B] 34 true 0 []]
    have la : ∀ e, loadS (H ++ (g ++ (SO.cells [.int .i64 A, .int .i64 B] 34 true 0 [] :: e))) (some 2) (.pointer (some ⟨H.length + g.length, 0, none⟩)) = some (.agg #[.int .i64 A, .int .i64 B]) := fun e => by
      rw [load_rdON, app_get, app_get0]; rfl
    have lb : ∀ z, loadS (H ++ (g ++ [z, SO.cells [.int .i64 A, .int .i64 B] 34 true 0 []])) (some 2) (.pointer (some ⟨H.length + (g.length + 1), 0, none⟩)) = some (.agg #[.int .i64 A, .int .i64 B]) := fun z => by
      rw [load_rdON, app_get, app_get]; rfl
    have ea := eq_agg A B
    simp only [List.append_assoc] at c29x c29y E2
    obtain ⟨xa, xc, rfl, -⟩ := hx
    obtain ⟨ya, yc, rfl, -⟩ := hy
    repeat (first | apply run_seq | apply run_block | apply end_seq | apply end_blk_hit | apply end_blk_miss rfl | apply end_blk | apply end_seq_exit | apply end_seq_ret | apply end_blk_ret | apply run_skip | apply run_ret | apply run_exit | (apply run_region (by decide); (simp only [go_sem, ↓reduceIte, Int.reduceAdd, Int.reduceEq, Int.reduceLE, Int.reduceLT, Int.reduceMul, Int.reduceNeg, Int.reduceSub, Int.reduceToNat, Nat.reduceAdd, Nat.reduceBEq, Nat.reduceEqDiff, Nat.reduceLT, Nat.reduceLeDiff, Nat.reduceMul, Nat.reduceSub, h5, h6, h7, h21, e1, c29x, c29y, la, lb, ea, ew]; rfl)) | (refine run_cond_t ?_ ?_; · simp only [go_sem, ↓reduceIte, Nat.reduceEqDiff]) | (refine run_cond_f ?_ ?_; · simp only [go_sem, ↓reduceIte, Nat.reduceEqDiff]))
    refine end_nil ⟨k - 1, by omega, s + 1, by omega, ?_, ?_, ?_, ?_, ?_, ?_, ?_, ?_, ?_, E2, rfl, rfl⟩
    · simp only [go_sem, ↓reduceIte, Int.reduceAdd, Int.reduceEq, Int.reduceLE, Int.reduceLT, Int.reduceMul, Int.reduceNeg, Int.reduceSub, Int.reduceToNat, Nat.reduceAdd, Nat.reduceBEq, Nat.reduceEqDiff, Nat.reduceLT, Nat.reduceLeDiff, Nat.reduceMul, Nat.reduceSub, h5]
    · simp only [go_sem, ↓reduceIte, Int.reduceAdd, Int.reduceEq, Int.reduceLE, Int.reduceLT, Int.reduceMul, Int.reduceNeg, Int.reduceSub, Int.reduceToNat, Nat.reduceAdd, Nat.reduceBEq, Nat.reduceEqDiff, Nat.reduceLT, Nat.reduceLeDiff, Nat.reduceMul, Nat.reduceSub, h6]
    · simp only [go_sem, ↓reduceIte, Int.reduceAdd, Int.reduceEq, Int.reduceLE, Int.reduceLT, Int.reduceMul, Int.reduceNeg, Int.reduceSub, Int.reduceToNat, Nat.reduceAdd, Nat.reduceBEq, Nat.reduceEqDiff, Nat.reduceLT, Nat.reduceLeDiff, Nat.reduceMul, Nat.reduceSub, h7]
    · simp only [go_sem, ↓reduceIte, Int.reduceAdd, Int.reduceEq, Int.reduceLE, Int.reduceLT, Int.reduceMul, Int.reduceNeg, Int.reduceSub, Int.reduceToNat, Nat.reduceAdd, Nat.reduceBEq, Nat.reduceEqDiff, Nat.reduceLT, Nat.reduceLeDiff, Nat.reduceMul, Nat.reduceSub, h8]
    · simp only [go_sem, ↓reduceIte, Int.reduceAdd, Int.reduceEq, Int.reduceLE, Int.reduceLT, Int.reduceMul, Int.reduceNeg, Int.reduceSub, Int.reduceToNat, Nat.reduceAdd, Nat.reduceBEq, Nat.reduceEqDiff, Nat.reduceLT, Nat.reduceLeDiff, Nat.reduceMul, Nat.reduceSub, h10]
    · simp only [go_sem, ↓reduceIte, Int.reduceAdd, Int.reduceEq, Int.reduceLE, Int.reduceLT, Int.reduceMul, Int.reduceNeg, Int.reduceSub, Int.reduceToNat, Nat.reduceAdd, Nat.reduceBEq, Nat.reduceEqDiff, Nat.reduceLT, Nat.reduceLeDiff, Nat.reduceMul, Nat.reduceSub, h12]
    · simp only [go_sem, ↓reduceIte, Int.reduceAdd, Int.reduceEq, Int.reduceLE, Int.reduceLT, Int.reduceMul, Int.reduceNeg, Int.reduceSub, Int.reduceToNat, Nat.reduceAdd, Nat.reduceBEq, Nat.reduceEqDiff, Nat.reduceLT, Nat.reduceLeDiff, Nat.reduceMul, Nat.reduceSub, h14]
    · simp only [go_sem, ↓reduceIte, Int.reduceAdd, Int.reduceEq, Int.reduceLE, Int.reduceLT, Int.reduceMul, Int.reduceNeg, Int.reduceSub, Int.reduceToNat, Nat.reduceAdd, Nat.reduceBEq, Nat.reduceEqDiff, Nat.reduceLT, Nat.reduceLeDiff, Nat.reduceMul, Nat.reduceSub, h1]
    · simp only [go_sem, ↓reduceIte, Int.reduceAdd, Int.reduceEq, Int.reduceLE, Int.reduceLT, Int.reduceMul, Int.reduceNeg, Int.reduceSub, Int.reduceToNat, Nat.reduceAdd, Nat.reduceBEq, Nat.reduceEqDiff, Nat.reduceLT, Nat.reduceLeDiff, Nat.reduceMul, Nat.reduceSub, ew]

theorem PS.shape {h : SHeap} {v : Value} {l : List (Int × Int)} (k : PS h v l) : ∃ a c, v = .slice a l.length c := by
  obtain ⟨a, c, rfl, _⟩ := k; exact ⟨_, _, rfl⟩

theorem four_loop (cx : Cx) {H : SHeap} {x a c : Value} {l : List (Int × Int)} (hx : PS H x l) (T : Tame l) (ha : IS H a ((those l (tRest l)).map fun (i : Nat) => (i : Int))) (hc : IS H c ((those l (tTip l)).map fun (i : Nat) => (i : Int))) (ρ0 : Reg) :
    ∀ k ρ ms h' d', (∃ (i : Nat) (y : Value), i + k = 4 ∧ ρ 5 = x ∧ ρ 6 = .int .i64 l.length ∧ ρ 7 = y ∧ ρ 8 = a ∧ ρ 10 = c ∧ ρ 12 = ρ0 12 ∧ ρ 14 = .int .i64 i ∧ ρ 1 = ρ0 1 ∧ PS h' y (trnN l i) ∧ Ext H h' ∧ ms = [] ∧ d' = []) →
    LoopW M cx 8 sf12L2 ρ ms h' d' (fun ex ρ' ms' h' d' => ex = .exit 0 ∧ ρ' 5 = x ∧ ρ' 6 = .int .i64 l.length ∧ ρ' 8 = a ∧ ρ' 12 = ρ0 12 ∧ ρ' 1 = ρ0 1 ∧ (∃ y, ρ' 7 = y ∧ PS h' y l) ∧ Ext H h' ∧ ms' = [] ∧ d' = []) := by
  have hn := T.hi
  refine loop_run _ ?_
  rintro k ρ ms h' d' ⟨i, y, hi, h5, h6, h7, h8, h10, h12, h14, h1, hy, E, rfl, rfl⟩
  unfold sf12L2
  by_cases hk : k = 0
  · have e1 : ¬ ((i : Int) < 4) := by omega
    have ei : i = 4 := by omega
    subst ei
    rw [trnN_4] at hy
    repeat (first | apply run_seq | apply run_block | apply end_seq | apply end_blk_hit | apply end_blk_miss rfl | apply end_blk | apply end_seq_exit | apply end_seq_ret | apply end_blk_ret | apply run_skip | apply run_ret | apply run_exit | (apply run_region (by decide); (simp only [go_sem, ↓reduceIte, Int.reduceAdd, Int.reduceEq, Int.reduceLE, Int.reduceLT, Int.reduceMul, Int.reduceNeg, Int.reduceSub, Int.reduceToNat, Nat.reduceAdd, Nat.reduceBEq, Nat.reduceEqDiff, Nat.reduceLT, Nat.reduceLeDiff, Nat.reduceMul, Nat.reduceSub, h14]; rfl)) | (refine run_cond_t ?_ ?_; · simp only [go_sem, ↓reduceIte, Nat.reduceEqDiff]) | (refine run_cond_f ?_ ?_; · simp only [go_sem, ↓reduceIte, Nat.reduceEqDiff]))
    refine end_nil ⟨rfl, ?_, ?_, ?_, ?_, ?_, ⟨y, ?_, hy⟩, E, rfl, rfl⟩
    · simp only [go_sem, ↓reduceIte, Int.reduceAdd, Int.reduceEq, Int.reduceLE, Int.reduceLT, Int.reduceMul, Int.reduceNeg, Int.reduceSub, Int.reduceToNat, Nat.reduceAdd, Nat.reduceBEq, Nat.reduceEqDiff, Nat.reduceLT, Nat.reduceLeDiff, Nat.reduceMul, Nat.reduceSub, h5]
    · simp only [go_sem, ↓reduceIte, Int.reduceAdd, Int.reduceEq, Int.reduceLE, Int.reduceLT, Int.reduceMul, Int.reduceNeg, Int.reduceSub, Int.reduceToNat, Nat.reduceAdd, Nat.reduceBEq, Nat.reduceEqDiff, Nat.reduceLT, Nat.reduceLeDiff, Nat.reduceMul, Nat.reduceSub, h6]
    · simp only [go_sem, ↓reduceIte, Int.reduceAdd, Int.reduceEq, Int.reduceLE, Int.reduceLT, Int.reduceMul, Int.reduceNeg, Int.reduceSub, Int.reduceToNat, Nat.reduceAdd, Nat.reduceBEq, Nat.reduceEqDiff, Nat.reduceLT, Nat.reduceLeDiff, Nat.reduceMul, Nat.reduceSub, h8]
    · simp only [go_sem, ↓reduceIte, Int.reduceAdd, Int.reduceEq, Int.reduceLE, Int.reduceLT, Int.reduceMul, Int.reduceNeg, Int.reduceSub, Int.reduceToNat, Nat.reduceAdd, Nat.reduceBEq, Nat.reduceEqDiff, Nat.reduceLT, Nat.reduceLeDiff, Nat.reduceMul, Nat.reduceSub, h12]
    · simp only [go_sem, ↓reduceIte, Int.reduceAdd, Int.reduceEq, Int.reduceLE, Int.reduceLT, Int.reduceMul, Int.reduceNeg, Int.reduceSub, Int.reduceToNat, Nat.reduceAdd, Nat.reduceBEq, Nat.reduceEqDiff, Nat.reduceLT, Nat.reduceLeDiff, Nat.reduceMul, Nat.reduceSub, h1]
    · simp only [go_sem, ↓reduceIte, Int.reduceAdd, Int.reduceEq, Int.reduceLE, Int.reduceLT, Int.reduceMul, Int.reduceNeg, Int.reduceSub, Int.reduceToNat, Nat.reduceAdd, Nat.reduceBEq, Nat.reduceEqDiff, Nat.reduceLT, Nat.reduceLeDiff, Nat.reduceMul, Nat.reduceSub, h7]
  · have e1 : (i : Int) < 4 := by omega
    have ew : IntKind.i64.wrap ((i : Int) + 1) = ((i + 1 : Nat) : Int) := by rw [wrap64 (by omega) (by omega)]; rfl
    have U := trnN_tame T i
    have V := trnN_tame T (i + 1)
    have eV : trnN l (i + 1) = (trnN l i).map trn := rfl
    have c32 := turned32 hy U
    rw [← eV, trnN_len] at c32
    have hty : PS (h' ++ [SO.cells (prs (trnN l (i + 1))) 53 true 0 []]) (.slice (some ⟨h'.length, 0, none⟩) l.length (UNK + 2)) (trnN l (i + 1)) := PS.mk0 (el := 53) (by rw [app_get0]; rfl) (trnN_len l (i + 1)).symm
    have c54 := hullR54 hty V
    obtain ⟨t1, t2⟩ := trnN_tests l (i + 1)
    have hth1 : those (trnN l (i + 1)) (tRest (trnN l (i + 1))) = those l (tRest l) := by unfold those; rw [trnN_len, t1]
    have hth2 : those (trnN l (i + 1)) (tTip (trnN l (i + 1))) = those l (tTip l) := by unfold those; rw [trnN_len, t2]
    obtain ⟨u1, g1, c27, i1⟩ := nums_ex (e := fun u => .tuple #[u, .int .i64 0]) (L := those (trnN l (i + 1)) (tRest (trnN l (i + 1)))) (rests27 hty V (tRest (trnN l (i + 1))) (fun _ => rfl))
    have hty1 := hty.app g1
    obtain ⟨u2, g2, c38, i2⟩ := nums_ex (e := fun u => .tuple #[u, .int .i64 0]) (L := those (trnN l (i + 1)) (tTip (trnN l (i + 1)))) (tips38 hty1 V (tTip (trnN l (i + 1))) (fun _ => rfl))
    have hty2 := hty1.app g2
    rw [hth1] at i1
    rw [hth2] at i2
    have hb : ∀ t, ((those l t).map fun (i : Nat) => (i : Int)).length < 4611686018427387904 := fun t => by rw [List.length_map]; have := those_len l t; omega
    have E0 := E
    obtain ⟨g, rfl⟩ := E
    have d1 := ints39 ((((ha.app g).app [SO.cells (prs (trnN l (i + 1))) 53 true 0 []]).app g1).app g2) (i1.app g2) (hb _)
    have d2 := ints39 ((((hc.app g).app [SO.cells (prs (trnN l (i + 1))) 53 true 0 []]).app g1).app g2) i2 (hb _)
    have hx2 := (((hx.app g).app [SO.cells (prs (trnN l (i + 1))) 53 true 0 []]).app g1).app g2
    have E2 := ((E0.app [SO.cells (prs (trnN l (i + 1))) 53 true 0 []]).app g1).app g2
    have ll := leans_loop cx hx2 hty2 T V (trnN_len l (i + 1)) (fun s => trnN_ln l s (i + 1))
    rw [decide_eq_true rfl] at d1 d2
    obtain ⟨s1, q1, rfl⟩ := i1.shape
    obtain ⟨s2, q2, rfl⟩ := i2.shape
    obtain ⟨s3, q3, rfl⟩ := ha.shape
    obtain ⟨s4, q4, rfl⟩ := hc.shape
    obtain ⟨s5, q5, rfl⟩ := hy.shape
    rw [trnN_len] at h7 c32
    simp only [List.append_assoc, List.cons_append, List.nil_append, List.length_append] at c32 c54 c27 c38 d1 d2 ll E2 hty2
    repeat (first | apply run_seq | apply run_block | apply end_seq | apply end_blk_hit | apply end_blk_miss rfl | apply end_blk | apply end_seq_exit | apply end_seq_ret | apply end_blk_ret | apply run_skip | apply run_ret | apply run_exit | (apply run_region (by decide); (simp only [go_sem, ↓reduceIte, Int.reduceAdd, Int.reduceEq, Int.reduceLE, Int.reduceLT, Int.reduceMul, Int.reduceNeg, Int.reduceSub, Int.reduceToNat, Nat.reduceAdd, Nat.reduceBEq, Nat.reduceEqDiff, Nat.reduceLT, Nat.reduceLeDiff, Nat.reduceMul, Nat.reduceSub, h5, h6, h7, h8, h10, h14, e1, c32, c54, c27, c38, d1, d2]; rfl)) | (refine run_cond_t ?_ ?_; · simp only [go_sem, ↓reduceIte, Nat.reduceEqDiff]) | (refine run_cond_f ?_ ?_; · simp only [go_sem, ↓reduceIte, Nat.reduceEqDiff]))
    refine run_loop (ll (fun j => if j = 8 then ρ 8 else if j = 10 then ρ 10 else if j = 12 then ρ 12 else if j = 14 then ρ 14 else ρ 1) l.length _ _ _ _ ⟨0, by omega, by simp only [go_sem, ↓reduceIte, Int.reduceAdd, Int.reduceEq, Int.reduceLE, Int.reduceLT, Int.reduceMul, Int.reduceNeg, Int.reduceSub, Int.reduceToNat, Nat.reduceAdd, Nat.reduceBEq, Nat.reduceEqDiff, Nat.reduceLT, Nat.reduceLeDiff, Nat.reduceMul, Nat.reduceSub, h5], by simp only [go_sem, ↓reduceIte, Int.reduceAdd, Int.reduceEq, Int.reduceLE, Int.reduceLT, Int.reduceMul, Int.reduceNeg, Int.reduceSub, Int.reduceToNat, Nat.reduceAdd, Nat.reduceBEq, Nat.reduceEqDiff, Nat.reduceLT, Nat.reduceLeDiff, Nat.reduceMul, Nat.reduceSub, h6], by (simp only [go_sem, ↓reduceIte, Int.reduceAdd, Int.reduceEq, Int.reduceLE, Int.reduceLT, Int.reduceMul, Int.reduceNeg, Int.reduceSub, Int.reduceToNat, Nat.reduceAdd, Nat.reduceBEq, Nat.reduceEqDiff, Nat.reduceLT, Nat.reduceLeDiff, Nat.reduceMul, Nat.reduceSub]) <;> rfl, by simp only [go_sem, ↓reduceIte, Int.reduceAdd, Int.reduceEq, Int.reduceLE, Int.reduceLT, Int.reduceMul, Int.reduceNeg, Int.reduceSub, Int.reduceToNat, Nat.reduceAdd, Nat.reduceBEq, Nat.reduceEqDiff, Nat.reduceLT, Nat.reduceLeDiff, Nat.reduceMul, Nat.reduceSub], by simp only [go_sem, ↓reduceIte, Int.reduceAdd, Int.reduceEq, Int.reduceLE, Int.reduceLT, Int.reduceMul, Int.reduceNeg, Int.reduceSub, Int.reduceToNat, Nat.reduceAdd, Nat.reduceBEq, Nat.reduceEqDiff, Nat.reduceLT, Nat.reduceLeDiff, Nat.reduceMul, Nat.reduceSub], by simp only [go_sem, ↓reduceIte, Int.reduceAdd, Int.reduceEq, Int.reduceLE, Int.reduceLT, Int.reduceMul, Int.reduceNeg, Int.reduceSub, Int.reduceToNat, Nat.reduceAdd, Nat.reduceBEq, Nat.reduceEqDiff, Nat.reduceLT, Nat.reduceLeDiff, Nat.reduceMul, Nat.reduceSub], by simp only [go_sem, ↓reduceIte, Int.reduceAdd, Int.reduceEq, Int.reduceLE, Int.reduceLT, Int.reduceMul, Int.reduceNeg, Int.reduceSub, Int.reduceToNat, Nat.reduceAdd, Nat.reduceBEq, Nat.reduceEqDiff, Nat.reduceLT, Nat.reduceLeDiff, Nat.reduceMul, Nat.reduceSub], by simp only [go_sem, ↓reduceIte, Int.reduceAdd, Int.reduceEq, Int.reduceLE, Int.reduceLT, Int.reduceMul, Int.reduceNeg, Int.reduceSub, Int.reduceToNat, Nat.reduceAdd, Nat.reduceBEq, Nat.reduceEqDiff, Nat.reduceLT, Nat.reduceLeDiff, Nat.reduceMul, Nat.reduceSub], by (simp only [go_sem, ↓reduceIte, Int.reduceAdd, Int.reduceEq, Int.reduceLE, Int.reduceLT, Int.reduceMul, Int.reduceNeg, Int.reduceSub, Int.reduceToNat, Nat.reduceAdd, Nat.reduceBEq, Nat.reduceEqDiff, Nat.reduceLT, Nat.reduceLeDiff, Nat.reduceMul, Nat.reduceSub]) <;> rfl, Ext.refl _, rfl, rfl⟩) ?_
    rintro ex ρ' ms' h2 d2 ⟨rfl, k5, k6, k7, k8, k10, k12, k14, k1, E3, rfl, rfl⟩
    have k14' : ρ' 14 = .int .i64 i := k14.trans h14
    repeat (first | apply run_seq | apply run_block | apply end_seq | apply end_blk_hit | apply end_blk_miss rfl | apply end_blk | apply end_seq_exit | apply end_seq_ret | apply end_blk_ret | apply run_skip | apply run_ret | apply run_exit | (apply run_region (by decide); (simp only [go_sem, ↓reduceIte, Int.reduceAdd, Int.reduceEq, Int.reduceLE, Int.reduceLT, Int.reduceMul, Int.reduceNeg, Int.reduceSub, Int.reduceToNat, Nat.reduceAdd, Nat.reduceBEq, Nat.reduceEqDiff, Nat.reduceLT, Nat.reduceLeDiff, Nat.reduceMul, Nat.reduceSub, k14', ew]; rfl)) | (refine run_cond_t ?_ ?_; · simp only [go_sem, ↓reduceIte, Nat.reduceEqDiff]) | (refine run_cond_f ?_ ?_; · simp only [go_sem, ↓reduceIte, Nat.reduceEqDiff]))
    refine end_nil ⟨k - 1, by omega, i + 1, .slice (some ⟨H.length + g.length, 0, none⟩) l.length (UNK + 2), by omega, ?_, ?_, ?_, ?_, ?_, ?_, ?_, ?_, ?_, ?_, rfl, rfl⟩
    · simp only [go_sem, ↓reduceIte, Int.reduceAdd, Int.reduceEq, Int.reduceLE, Int.reduceLT, Int.reduceMul, Int.reduceNeg, Int.reduceSub, Int.reduceToNat, Nat.reduceAdd, Nat.reduceBEq, Nat.reduceEqDiff, Nat.reduceLT, Nat.reduceLeDiff, Nat.reduceMul, Nat.reduceSub, k5]
    · simp only [go_sem, ↓reduceIte, Int.reduceAdd, Int.reduceEq, Int.reduceLE, Int.reduceLT, Int.reduceMul, Int.reduceNeg, Int.reduceSub, Int.reduceToNat, Nat.reduceAdd, Nat.reduceBEq, Nat.reduceEqDiff, Nat.reduceLT, Nat.reduceLeDiff, Nat.reduceMul, Nat.reduceSub, k6]
    · simp only [go_sem, ↓reduceIte, Int.reduceAdd, Int.reduceEq, Int.reduceLE, Int.reduceLT, Int.reduceMul, Int.reduceNeg, Int.reduceSub, Int.reduceToNat, Nat.reduceAdd, Nat.reduceBEq, Nat.reduceEqDiff, Nat.reduceLT, Nat.reduceLeDiff, Nat.reduceMul, Nat.reduceSub, k7]
    · simp only [go_sem, ↓reduceIte, Int.reduceAdd, Int.reduceEq, Int.reduceLE, Int.reduceLT, Int.reduceMul, Int.reduceNeg, Int.reduceSub, Int.reduceToNat, Nat.reduceAdd, Nat.reduceBEq, Nat.reduceEqDiff, Nat.reduceLT, Nat.reduceLeDiff, Nat.reduceMul, Nat.reduceSub, k8]; exact h8
    · simp only [go_sem, ↓reduceIte, Int.reduceAdd, Int.reduceEq, Int.reduceLE, Int.reduceLT, Int.reduceMul, Int.reduceNeg, Int.reduceSub, Int.reduceToNat, Nat.reduceAdd, Nat.reduceBEq, Nat.reduceEqDiff, Nat.reduceLT, Nat.reduceLeDiff, Nat.reduceMul, Nat.reduceSub, k10]; exact h10
    · simp only [go_sem, ↓reduceIte, Int.reduceAdd, Int.reduceEq, Int.reduceLE, Int.reduceLT, Int.reduceMul, Int.reduceNeg, Int.reduceSub, Int.reduceToNat, Nat.reduceAdd, Nat.reduceBEq, Nat.reduceEqDiff, Nat.reduceLT, Nat.reduceLeDiff, Nat.reduceMul, Nat.reduceSub, k12]; exact h12
    · simp only [go_sem, ↓reduceIte, Int.reduceAdd, Int.reduceEq, Int.reduceLE, Int.reduceLT, Int.reduceMul, Int.reduceNeg, Int.reduceSub, Int.reduceToNat, Nat.reduceAdd, Nat.reduceBEq, Nat.reduceEqDiff, Nat.reduceLT, Nat.reduceLeDiff, Nat.reduceMul, Nat.reduceSub, ew]
    · simp only [go_sem, ↓reduceIte, Int.reduceAdd, Int.reduceEq, Int.reduceLE, Int.reduceLT, Int.reduceMul, Int.reduceNeg, Int.reduceSub, Int.reduceToNat, Nat.reduceAdd, Nat.reduceBEq, Nat.reduceEqDiff, Nat.reduceLT, Nat.reduceLeDiff, Nat.reduceMul, Nat.reduceSub, k1]; exact h1
    · obtain ⟨g3, rfl⟩ := E3
      exact hty2.app g3
    · obtain ⟨g3, rfl⟩ := E3
      exact E2.app g3

/-- a slice begun at another corner: x[k:] and then x[:k] -/
theorem moved_ex {h : SHeap} {b c k : Nat} {W : List (Int × Int)} (hb : Prs h b 0 W) (hc : c = UNK + 2 ∨ (c < UNK ∧ W.length ≤ c)) (hk : k < W.length) (hn : W.length ≤ 1000) :
    ∃ x1 x2 v1 v2 H1 H2, sliceS 2 (.slice (some ⟨b, 0, none⟩) W.length c) (some (.int .i64 (k : Int))) none none = some x1 ∧ (∀ base d, appendS base h d 53 true 2 16 (.slice none 0 0) x1 = some (v1, H1, d)) ∧
      sliceS 2 (.slice (some ⟨b, 0, none⟩) W.length c) none (some (.int .i64 (k : Int))) none = some x2 ∧ (∀ base d, appendS base H1 d 53 true 2 16 v1 x2 = some (v2, H2, d)) ∧ PS H2 v2 (rot k W) ∧ h.length ≤ H2.length ∧ (∀ j, j < h.length → H2[j]? = h[j]?) := by
  have e2 : (decide (0 ≤ (k : Int)) && decide ((k : Int) ≤ (W.length : Int))) = true := by simp; omega
  have hs1 : ∃ c1, sliceS 2 (.slice (some ⟨b, 0, none⟩) W.length c) (some (.int .i64 (k : Int))) none none = some (.slice (some ⟨b, k * 2, none⟩) (W.length - k) c1) := by
    rcases hc with rfl | ⟨h1, h2⟩
    · have e1 : Nat.ble UNK (UNK + 2) = true := by decide
      refine ⟨UNK + 2, ?_⟩
      unfold sliceS
      simp only [bMx, e1, if_true, bHi, bLo, bnd, e2, Int.toNat_natCast]
      simp
    · have e1 : Nat.ble UNK c = false := by rw [ble_dec]; simp; omega
      have e3 : (c == k) = false := beq_eq_false_iff_ne.2 (by omega)
      have e4 : Nat.blt c UNK = true := by rw [blt_dec]; simpa using h1
      refine ⟨c - k, ?_⟩
      unfold sliceS
      simp only [bMx, e1, bHi, bLo, bnd, e2, e3, e4, Int.toNat_natCast, if_true, if_false, Bool.false_eq_true, Bool.false_and, Nat.zero_add]
  have hs2 : ∃ c2, sliceS 2 (.slice (some ⟨b, 0, none⟩) W.length c) none (some (.int .i64 (k : Int))) none = some (.slice (some ⟨b, 0, none⟩) k c2) := by
    rcases hc with rfl | ⟨h1, h2⟩
    · exact ⟨_, slice_to (by omega)⟩
    · have e1 : Nat.ble UNK c = false := by rw [ble_dec]; simp; omega
      have e5 : (decide (0 ≤ (k : Int)) && decide ((k : Int) ≤ (c : Int))) = true := by simp; omega
      have e3 : (c == 0) = false := beq_eq_false_iff_ne.2 (by omega)
      have e4 : Nat.blt c UNK = true := by rw [blt_dec]; simpa using h1
      refine ⟨c - 0, ?_⟩
      unfold sliceS
      simp only [bMx, e1, bHi, bLo, bnd, e5, e3, e4, Int.toNat_natCast, if_true, if_false, Bool.false_eq_true, Bool.false_and, Nat.zero_add, Nat.zero_mul, Nat.sub_zero]
  obtain ⟨c1, s1⟩ := hs1
  obtain ⟨c2, s2⟩ := hs2
  have hWd := hb.drop k (by omega)
  rw [Nat.zero_add] at hWd
  have a1 := fun base d => append_prs (base := base) (d := d) (el := 53) (c := c1) hWd (n := W.length - k) (by simp) (by omega) (by omega)
  have ht : (W.drop k).take (W.length - k) = W.drop k := List.take_of_length_le (by simp)
  simp only [ht] at a1
  have hX : (h ++ [SO.cells (prs (W.drop k)) 53 true 0 []])[h.length]? = some (.cells (prs (W.drop k)) 53 true 0 []) := by rw [app_get0]; rfl
  by_cases k0 : k = 0
  · subst k0
    refine ⟨_, _, _, _, _, h ++ [SO.cells (prs (W.drop 0)) 53 true 0 []], s1, a1, s2, fun base d => rfl, ?_, by simp, fun j hj => List.getElem?_append_left hj⟩
    have : rot 0 W = W.drop 0 := by simp [rot]
    rw [this]
    exact PS.mk0 hX (by simp)
  · have a2 := fun base d => append_more (c := c2) hX (show (W.drop k).length = W.length - k by simp) (hb.app [SO.cells (prs (W.drop k)) 53 true 0 []]) (show k ≤ W.length by omega) k0 (by omega) base d
    refine ⟨_, _, _, _, _, _, s1, a1, s2, a2, ?_, ?_, ?_⟩
    · rw [← prs_app]
      have hl : (share (h ++ [SO.cells (prs (W.drop k)) 53 true 0 []]) h.length).length = h.length + 1 := by rw [share_ln]; simp
      refine ⟨_, _, by rw [rot_length hk, Nat.sub_add_cancel (by omega)], fun _ => ⟨_, _, rfl, Prs.mk0 (el := 53) (pf := true) (own := 0) (old := [h.length]) ?_ rfl⟩⟩
      have : (h ++ [SO.cells (prs (W.drop k)) 53 true 0 []]).length = (share (h ++ [SO.cells (prs (W.drop k)) 53 true 0 []]) h.length).length := by rw [hl]; simp
      rw [this, app_get0]; rfl
    · simp [share_ln]; omega
    · intro j hj
      rw [List.getElem?_append_left (by rw [share_ln]; simp; omega), share_gt _ _ _ (by omega), List.getElem?_append_left hj]

theorem moved_loop (cx : Cx) {h : SHeap} {a u : Value} {l : List (Int × Int)} (T : Tame l) {k0 : Nat} (hk0 : k0 < l.length) (ha : IS h a ((those l (tRest l)).map fun (i : Nat) => (i : Int))) (hu : IS h u ((those (rot k0 l) (tRest (rot k0 l))).map fun (i : Nat) => (i : Int))) :
    ∀ k ρ ms h' d', (∃ i : Nat, i + k = (those (rot k0 l) (tRest (rot k0 l))).length ∧ ρ 6 = .int .i64 l.length ∧ ρ 8 = a ∧ ρ 26 = .int .i64 k0 ∧ ρ 28 = u ∧ ρ 32 = .int .i64 i ∧ ms = [] ∧ h' = h ∧ d' = []) →
    LoopW M cx 8 sf12L0 ρ ms h' d' (fun ex ρ' ms' h' d' => ex = .exit 4 ∧ ms' = [] ∧ h' = h ∧ d' = []) := by
  have hn := T.hi
  have hul := those_len (rot k0 l) (tRest (rot k0 l))
  rw [rot_length hk0] at hul
  refine loop_run _ ?_
  rintro k ρ ms h' d' ⟨i, hi, h6, h8, h26, h28, h32, rfl, rfl, rfl⟩
  have huk := hu
  obtain ⟨ua, uc, rfl, kk⟩ := huk
  unfold sf12L0
  by_cases hk : k = 0
  · have e1 : ¬ ((i : Int) < (those (rot k0 l) (tRest (rot k0 l))).length) := by omega
    repeat (first | apply run_seq | apply run_block | apply end_seq | apply end_blk_hit | apply end_blk_miss rfl | apply end_blk | apply end_seq_exit | apply end_seq_ret | apply end_blk_ret | apply run_skip | apply run_ret | apply run_exit | (apply run_region (by decide); (simp only [go_sem, ↓reduceIte, Int.reduceAdd, Int.reduceEq, Int.reduceLE, Int.reduceLT, Int.reduceMul, Int.reduceNeg, Int.reduceSub, Int.reduceToNat, Nat.reduceAdd, Nat.reduceBEq, Nat.reduceEqDiff, Nat.reduceLT, Nat.reduceLeDiff, Nat.reduceMul, Nat.reduceSub, h28, h32, e1, List.length_map]; rfl)) | (refine run_cond_t ?_ ?_; · simp only [go_sem, ↓reduceIte, Nat.reduceEqDiff]) | (refine run_cond_f ?_ ?_; · simp only [go_sem, ↓reduceIte, Nat.reduceEqDiff]))
    exact end_nil ⟨rfl, rfl, rfl, rfl⟩
  · have e1 : (i : Int) < (those (rot k0 l) (tRest (rot k0 l))).length := by omega
    have e0 : (0 : Int) ≤ i := by omega
    have hil : i < (those (rot k0 l) (tRest (rot k0 l))).length := by omega
    have ew : IntKind.i64.wrap ((i : Int) + 1) = ((i + 1 : Nat) : Int) := by rw [wrap64 (by omega) (by omega)]; rfl
    obtain ⟨b, rfl, pb⟩ := kk (by intro e; rw [List.map_eq_nil_iff] at e; rw [e] at hil; simp at hil)
    obtain ⟨x, hx⟩ : ∃ x, (those (rot k0 l) (tRest (rot k0 l)))[i]? = some x := ⟨_, List.getElem?_eq_getElem hil⟩
    have hmem := List.mem_of_getElem? hx
    unfold those at hmem
    rw [rot_length hk0, List.mem_filter, List.mem_range] at hmem
    obtain ⟨x1, x2⟩ := hmem
    rw [tRest_rot hk0 x1] at x2
    have lx : loadS h' none (.pointer (some ⟨b, i, none⟩)) = some (.int .i64 (x : Int)) := by
      have hl : i < ((those (rot k0 l) (tRest (rot k0 l))).map fun (i : Nat) => (i : Int)).length := by simpa using hil
      rw [pb.load hl]
      have := List.getElem?_eq_getElem hil
      rw [hx] at this
      simp only [List.getElem_map, Option.some.injEq] at this ⊢
      rw [← this]
    have y1 : ¬ ((x : Int) < 0) := by omega
    have y2 : ¬ ((l.length : Int) ≤ x) := by omega
    have w1 : IntKind.i64.wrap ((x : Int) + k0) = ((x + k0 : Nat) : Int) := by rw [wrap64 (by omega) (by omega)]; rfl
    have t1 : (((x + k0 : Nat) : Int)).tmod (l.length : Int) = (((x + k0) % l.length : Nat) : Int) := by rw [Int.tmod_eq_emod_of_nonneg (by omega)]; rfl
    have hz : ¬ ((l.length : Int) = 0) := by omega
    have hm : (x + k0) % l.length < l.length := Nat.mod_lt _ (by omega)
    have c28 := has28 (((x + k0) % l.length : Nat) : Int) ha (by rw [List.length_map]; have := those_len l (tRest l); omega)
    rw [mem_those hm, x2] at c28
    repeat (first | apply run_seq | apply run_block | apply end_seq | apply end_blk_hit | apply end_blk_miss rfl | apply end_blk | apply end_seq_exit | apply end_seq_ret | apply end_blk_ret | apply run_skip | apply run_ret | apply run_exit | (apply run_region (by decide); (simp only [go_sem, ↓reduceIte, Int.reduceAdd, Int.reduceEq, Int.reduceLE, Int.reduceLT, Int.reduceMul, Int.reduceNeg, Int.reduceSub, Int.reduceToNat, Nat.reduceAdd, Nat.reduceBEq, Nat.reduceEqDiff, Nat.reduceLT, Nat.reduceLeDiff, Nat.reduceMul, Nat.reduceSub, h6, h8, h26, h28, h32, e0, e1, lx, y1, y2, w1, t1, hz, c28, ew, List.length_map, Int.toNat_natCast]; rfl)) | (refine run_cond_t ?_ ?_; · simp only [go_sem, ↓reduceIte, Nat.reduceEqDiff]) | (refine run_cond_f ?_ ?_; · simp only [go_sem, ↓reduceIte, Nat.reduceEqDiff]))
    refine end_nil ⟨k - 1, by omega, i + 1, by omega, ?_, ?_, ?_, ?_, ?_, rfl, rfl, rfl⟩
    · simp only [go_sem, ↓reduceIte, Int.reduceAdd, Int.reduceEq, Int.reduceLE, Int.reduceLT, Int.reduceMul, Int.reduceNeg, Int.reduceSub, Int.reduceToNat, Nat.reduceAdd, Nat.reduceBEq, Nat.reduceEqDiff, Nat.reduceLT, Nat.reduceLeDiff, Nat.reduceMul, Nat.reduceSub, h6]
    · simp only [go_sem, ↓reduceIte, Int.reduceAdd, Int.reduceEq, Int.reduceLE, Int.reduceLT, Int.reduceMul, Int.reduceNeg, Int.reduceSub, Int.reduceToNat, Nat.reduceAdd, Nat.reduceBEq, Nat.reduceEqDiff, Nat.reduceLT, Nat.reduceLeDiff, Nat.reduceMul, Nat.reduceSub, h8]
    · simp only [go_sem, ↓reduceIte, Int.reduceAdd, Int.reduceEq, Int.reduceLE, Int.reduceLT, Int.reduceMul, Int.reduceNeg, Int.reduceSub, Int.reduceToNat, Nat.reduceAdd, Nat.reduceBEq, Nat.reduceEqDiff, Nat.reduceLT, Nat.reduceLeDiff, Nat.reduceMul, Nat.reduceSub, h26]
    · simp only [go_sem, ↓reduceIte, Int.reduceAdd, Int.reduceEq, Int.reduceLE, Int.reduceLT, Int.reduceMul, Int.reduceNeg, Int.reduceSub, Int.reduceToNat, Nat.reduceAdd, Nat.reduceBEq, Nat.reduceEqDiff, Nat.reduceLT, Nat.reduceLeDiff, Nat.reduceMul, Nat.reduceSub, h28]
    · simp only [go_sem, ↓reduceIte, Int.reduceAdd, Int.reduceEq, Int.reduceLE, Int.reduceLT, Int.reduceMul, Int.reduceNeg, Int.reduceSub, Int.reduceToNat, Nat.reduceAdd, Nat.reduceBEq, Nat.reduceEqDiff, Nat.reduceLT, Nat.reduceLeDiff, Nat.reduceMul, Nat.reduceSub, ew]

theorem PS.keep {h h' : SHeap} {v : Value} {l : List (Int × Int)} (hv : PS h v l) (k : ∀ j, j < h.length → h'[j]? = h[j]?) : PS h' v l := by
  obtain ⟨a, c, rfl, hk⟩ := hv
  exact ⟨a, c, rfl, fun hn => let ⟨b, o, e, p⟩ := hk hn; ⟨b, o, e, p.same (k b p.lt)⟩⟩
theorem IS.keep {h h' : SHeap} {v : Value} {l : List Int} (hv : IS h v l) (k : ∀ j, j < h.length → h'[j]? = h[j]?) : IS h' v l := by
  obtain ⟨a, c, rfl, hk⟩ := hv
  refine ⟨a, c, rfl, fun hn => ?_⟩
  obtain ⟨b, e, p⟩ := hk hn
  have hl := p.lt
  obtain ⟨el, pf, own, old, h1, h2⟩ := p
  exact ⟨b, e, el, pf, own, old, by rw [k b hl]; exact h1, h2⟩
theorem eq_agg3 (a b c : Int) : eqS (.agg [.int, .int, .int]) (.agg #[.int .i64 a, .int .i64 b, .int .i64 c]) (.agg #[.int .i64 a, .int .i64 b, .int .i64 c]) = some true := by
  simp [eqS, eqList, eqCell]

/-- the law of four turns -/
theorem law12 {h : SHeap} {v : Value} {l : List (Int × Int)} (hv : ArgS h v l) (z : Int) : M.call 12 [v, .int .i64 z] h = some (.bool true, h, []) := by
  obtain ⟨T, c, tm, hc, c18⟩ := tame18 hv 0
  have hlo := tm.lo
  have hhi := tm.hi
  obtain ⟨s, hs, es, es0⟩ := side_ok z (n := T.length) (by omega) (by omega)
  have hpb : Prs (h ++ [SO.cells (prs T) 53 true 0 []]) h.length 0 T := Prs.mk0 (by rw [app_get0]; rfl) rfl
  have hp : PS (h ++ [SO.cells (prs T) 53 true 0 []]) (.slice (some ⟨h.length, 0, none⟩) T.length c) T := ⟨_, _, rfl, fun _ => ⟨_, _, rfl, hpb⟩⟩
  obtain ⟨u1, g1, c27, i1⟩ := nums_ex (e := fun u => .tuple #[u, .int .i64 0]) (L := those T (tRest T)) (rests27 hp tm (tRest T) (fun _ => rfl))
  have hp1 := hp.app g1
  obtain ⟨u2, g2, c38, i2⟩ := nums_ex (e := fun u => .tuple #[u, .int .i64 0]) (L := those T (tTip T)) (tips38 hp1 tm (tTip T) (fun _ => rfl))
  have hp2 := hp1.app g2
  have c20 := middle20 hp2 tm
  have hp3 := hp2.app [SO.cells [.int .i64 (mX T), .int .i64 (mY T), .int .i64 (mD T)] 27 true 0 []]
  have i1' := (i1.app g2).app [SO.cells [.int .i64 (mX T), .int .i64 (mY T), .int .i64 (mD T)] 27 true 0 []]
  have i2' := i2.app [SO.cells [.int .i64 (mX T), .int .i64 (mY T), .int .i64 (mD T)] 27 true 0 []]
  have fl := four_loop ⟨h.length, none, 12⟩ hp3 tm i1' i2'
  obtain ⟨s1, q1, rfl⟩ := i1.shape
  obtain ⟨s2, q2, rfl⟩ := i2.shape
  have hK : ∃ K, h ++ (SO.cells (prs T) 53 true 0 [] :: (g1 ++ (g2 ++ [SO.cells [.int .i64 (mX T), .int .i64 (mY T), .int .i64 (mD T)] 27 true 0 []]))) = K ∧ K.take h.length = h ∧ h.length ≤ K.length ∧ K[h.length + (g1.length + g2.length + 1)]? = some (.cells [.int .i64 (mX T), .int .i64 (mY T), .int .i64 (mD T)] 27 true 0 []) ∧ Prs K h.length 0 T := by
    refine ⟨_, rfl, take_app _ _, by simp, ?_, ?_⟩
    · rw [app_get, List.getElem?_cons_succ, List.getElem?_append_right (by omega), Nat.add_sub_cancel_left, app_get0]; rfl
    · have := hpb.app (g1 ++ (g2 ++ [SO.cells [.int .i64 (mX T), .int .i64 (mY T), .int .i64 (mD T)] 27 true 0 []]))
      simpa only [List.append_assoc, List.cons_append, List.nil_append] using this
  simp only [List.append_assoc, List.cons_append, List.nil_append, List.length_map] at c18 c27 c38 c20 fl hp3 i1' i2'
  obtain ⟨K, hKe, hKt, hKl, hKm, hKp⟩ := hK
  refine call_run sf12 rfl rfl rfl ?_
  unfold sf12
  repeat (first | apply run_seq | apply run_block | apply end_seq | apply end_blk_hit | apply end_blk_miss rfl | apply end_blk | apply end_seq_exit | apply end_seq_ret | apply end_blk_ret | apply run_skip | apply run_ret | apply run_exit | (apply run_region (by decide); (simp only [go_sem, ↓reduceIte, Int.reduceAdd, Int.reduceEq, Int.reduceLE, Int.reduceLT, Int.reduceMul, Int.reduceNeg, Int.reduceSub, Int.reduceToNat, Nat.reduceAdd, Nat.reduceBEq, Nat.reduceEqDiff, Nat.reduceLT, Nat.reduceLeDiff, Nat.reduceMul, Nat.reduceSub, argR, c18, c27, c38, c20]; rfl)) | (refine run_cond_t ?_ ?_; · simp only [go_sem, ↓reduceIte, Nat.reduceEqDiff]) | (refine run_cond_f ?_ ?_; · simp only [go_sem, ↓reduceIte, Nat.reduceEqDiff]))
  rw [hKe] at fl hp3 i1' i2' ⊢
  have hKh : ∀ j, j < h.length → K[j]? = h[j]? := fun j hj => by rw [← hKe, List.getElem?_append_left hj]
  refine run_loop (fl (fun j => if j = 12 then .pointer (some ⟨h.length + (g1.length + g2.length + 1), 0, none⟩) else .int .i64 z) 4 _ _ _ _ ⟨0, .slice (some ⟨h.length, 0, none⟩) T.length c, rfl, by simp only [go_sem, ↓reduceIte, Int.reduceAdd, Int.reduceEq, Int.reduceLE, Int.reduceLT, Int.reduceMul, Int.reduceNeg, Int.reduceSub, Int.reduceToNat, Nat.reduceAdd, Nat.reduceBEq, Nat.reduceEqDiff, Nat.reduceLT, Nat.reduceLeDiff, Nat.reduceMul, Nat.reduceSub], by simp only [go_sem, ↓reduceIte, Int.reduceAdd, Int.reduceEq, Int.reduceLE, Int.reduceLT, Int.reduceMul, Int.reduceNeg, Int.reduceSub, Int.reduceToNat, Nat.reduceAdd, Nat.reduceBEq, Nat.reduceEqDiff, Nat.reduceLT, Nat.reduceLeDiff, Nat.reduceMul, Nat.reduceSub], by simp only [go_sem, ↓reduceIte, Int.reduceAdd, Int.reduceEq, Int.reduceLE, Int.reduceLT, Int.reduceMul, Int.reduceNeg, Int.reduceSub, Int.reduceToNat, Nat.reduceAdd, Nat.reduceBEq, Nat.reduceEqDiff, Nat.reduceLT, Nat.reduceLeDiff, Nat.reduceMul, Nat.reduceSub], by simp only [go_sem, ↓reduceIte, Int.reduceAdd, Int.reduceEq, Int.reduceLE, Int.reduceLT, Int.reduceMul, Int.reduceNeg, Int.reduceSub, Int.reduceToNat, Nat.reduceAdd, Nat.reduceBEq, Nat.reduceEqDiff, Nat.reduceLT, Nat.reduceLeDiff, Nat.reduceMul, Nat.reduceSub], by simp only [go_sem, ↓reduceIte, Int.reduceAdd, Int.reduceEq, Int.reduceLE, Int.reduceLT, Int.reduceMul, Int.reduceNeg, Int.reduceSub, Int.reduceToNat, Nat.reduceAdd, Nat.reduceBEq, Nat.reduceEqDiff, Nat.reduceLT, Nat.reduceLeDiff, Nat.reduceMul, Nat.reduceSub], by (simp only [go_sem, ↓reduceIte, Int.reduceAdd, Int.reduceEq, Int.reduceLE, Int.reduceLT, Int.reduceMul, Int.reduceNeg, Int.reduceSub, Int.reduceToNat, Nat.reduceAdd, Nat.reduceBEq, Nat.reduceEqDiff, Nat.reduceLT, Nat.reduceLeDiff, Nat.reduceMul, Nat.reduceSub]) <;> rfl, by (simp only [go_sem, ↓reduceIte, Int.reduceAdd, Int.reduceEq, Int.reduceLE, Int.reduceLT, Int.reduceMul, Int.reduceNeg, Int.reduceSub, Int.reduceToNat, Nat.reduceAdd, Nat.reduceBEq, Nat.reduceEqDiff, Nat.reduceLT, Nat.reduceLeDiff, Nat.reduceMul, Nat.reduceSub]) <;> rfl, by (simp only [go_sem, ↓reduceIte, Int.reduceAdd, Int.reduceEq, Int.reduceLE, Int.reduceLT, Int.reduceMul, Int.reduceNeg, Int.reduceSub, Int.reduceToNat, Nat.reduceAdd, Nat.reduceBEq, Nat.reduceEqDiff, Nat.reduceLT, Nat.reduceLeDiff, Nat.reduceMul, Nat.reduceSub, argR]) <;> rfl, hp3, Ext.refl _, rfl, rfl⟩) ?_
  rintro ex ρ' ms' h1 d1 ⟨rfl, k5, k6, k8, k12, k1, ⟨y, k7, hy⟩, ⟨g, rfl⟩, rfl, rfl⟩
  obtain ⟨x1, x2, v1, v2, H1, H2, m1, m2, m3, m4, hm, hml, hms⟩ := moved_ex (hKp.app g) hc hs (by omega)
  have tr := tame_rot tm hs
  obtain ⟨e1, e2, e3⟩ := mid_rot (l := T) hs
  obtain ⟨u3, g3, c27', i3⟩ := nums_ex (e := fun u => .tuple #[u, .int .i64 0]) (L := those (rot s T) (tRest (rot s T))) (rests27 hm tr (tRest (rot s T)) (fun _ => rfl))
  have c20' := middle20 (hm.app g3) tr
  rw [e1, e2, e3] at c20'
  have hKH : ∀ j, j < K.length → H2[j]? = K[j]? := fun j hj => by rw [hms j (by simp; omega), List.getElem?_append_left hj]
  have hKHe : ∀ e j, j < K.length → (H2 ++ e)[j]? = K[j]? := fun e j hj => by rw [List.getElem?_append_left (by simp at hml; omega)]; exact hKH j hj
  have hlK : h.length + (g1.length + g2.length + 1) < K.length := (List.getElem?_eq_some_iff.1 hKm).1
  have lm : ∀ e, loadS (H2 ++ e) (some 3) (.pointer (some ⟨h.length + (g1.length + g2.length + 1), 0, none⟩)) = some (.agg #[.int .i64 (mX T), .int .i64 (mY T), .int .i64 (mD T)]) := fun e => by
    rw [load_rdON, hKHe e _ hlK, hKm]; rfl
  have lm2 : loadS (H2 ++ (g3 ++ [SO.cells [.int .i64 (mX T), .int .i64 (mY T), .int .i64 (mD T)] 27 true 0 []])) (some 3) (.pointer (some ⟨H2.length + g3.length, 0, none⟩)) = some (.agg #[.int .i64 (mX T), .int .i64 (mY T), .int .i64 (mD T)]) := by
    rw [load_rdON, app_get, app_get0]; rfl
  have ea := eq_agg3 (mX T) (mY T) (mD T)
  have hlen := count_rot (l := T) hs
  have hyk : PS (H2 ++ (g3 ++ [SO.cells [.int .i64 (mX T), .int .i64 (mY T), .int .i64 (mD T)] 27 true 0 []])) y T := hy.keep (fun j hj => by rw [List.getElem?_append_left (by omega)]; exact hms j hj)
  have hxk : PS (H2 ++ (g3 ++ [SO.cells [.int .i64 (mX T), .int .i64 (mY T), .int .i64 (mD T)] 27 true 0 []])) (.slice (some ⟨h.length, 0, none⟩) T.length c) T := hp3.keep (hKHe _)
  have d33 := pairs33 hyk hxk (by omega)
  rw [decide_eq_true rfl] at d33
  have hak := i1'.keep (hKHe (g3 ++ [SO.cells [.int .i64 (mX T), .int .i64 (mY T), .int .i64 (mD T)] 27 true 0 []]))
  have huk := i3.app [SO.cells [.int .i64 (mX T), .int .i64 (mY T), .int .i64 (mD T)] 27 true 0 []]
  rw [List.append_assoc] at huk
  have ml := moved_loop ⟨h.length, none, 12⟩ tm hs hak huk
  have qlen : ((those (rot s T) (tRest (rot s T))).length : Int) = (those T (tRest T)).length := by omega
  obtain ⟨s3, q3, rfl⟩ := i3.shape
  obtain ⟨s4, q4, rfl⟩ := hm.shape
  obtain ⟨s5, q5, rfl⟩ := hy.shape
  simp only [List.append_assoc, List.length_map] at c27' c20' d33 ml
  repeat (first | apply run_seq | apply run_block | apply end_seq | apply end_blk_hit | apply end_blk_miss rfl | apply end_blk | apply end_seq_exit | apply end_seq_ret | apply end_blk_ret | apply run_skip | apply run_ret | apply run_exit | (apply run_region (by decide); (simp only [go_sem, ↓reduceIte, Int.reduceAdd, Int.reduceEq, Int.reduceLE, Int.reduceLT, Int.reduceMul, Int.reduceNeg, Int.reduceSub, Int.reduceToNat, Nat.reduceAdd, Nat.reduceBEq, Nat.reduceEqDiff, Nat.reduceLT, Nat.reduceLeDiff, Nat.reduceMul, Nat.reduceSub, k1, k5, k6, k7, k8, k12, es, es0, m1, m2, m3, m4, c27', c20', lm, lm2, ea, d33, List.length_map, qlen]; rfl)) | (refine run_cond_t ?_ ?_; · simp only [go_sem, ↓reduceIte, Nat.reduceEqDiff]) | (refine run_cond_f ?_ ?_; · simp only [go_sem, ↓reduceIte, Nat.reduceEqDiff]))
  refine run_loop (ml (those (rot s T) (tRest (rot s T))).length _ _ _ _ ⟨0, by omega, by simp only [go_sem, ↓reduceIte, Int.reduceAdd, Int.reduceEq, Int.reduceLE, Int.reduceLT, Int.reduceMul, Int.reduceNeg, Int.reduceSub, Int.reduceToNat, Nat.reduceAdd, Nat.reduceBEq, Nat.reduceEqDiff, Nat.reduceLT, Nat.reduceLeDiff, Nat.reduceMul, Nat.reduceSub, k6], by simp only [go_sem, ↓reduceIte, Int.reduceAdd, Int.reduceEq, Int.reduceLE, Int.reduceLT, Int.reduceMul, Int.reduceNeg, Int.reduceSub, Int.reduceToNat, Nat.reduceAdd, Nat.reduceBEq, Nat.reduceEqDiff, Nat.reduceLT, Nat.reduceLeDiff, Nat.reduceMul, Nat.reduceSub, k8], by simp only [go_sem, ↓reduceIte, Int.reduceAdd, Int.reduceEq, Int.reduceLE, Int.reduceLT, Int.reduceMul, Int.reduceNeg, Int.reduceSub, Int.reduceToNat, Nat.reduceAdd, Nat.reduceBEq, Nat.reduceEqDiff, Nat.reduceLT, Nat.reduceLeDiff, Nat.reduceMul, Nat.reduceSub], by (simp only [go_sem, ↓reduceIte, Int.reduceAdd, Int.reduceEq, Int.reduceLE, Int.reduceLT, Int.reduceMul, Int.reduceNeg, Int.reduceSub, Int.reduceToNat, Nat.reduceAdd, Nat.reduceBEq, Nat.reduceEqDiff, Nat.reduceLT, Nat.reduceLeDiff, Nat.reduceMul, Nat.reduceSub]) <;> rfl, by (simp only [go_sem, ↓reduceIte, Int.reduceAdd, Int.reduceEq, Int.reduceLE, Int.reduceLT, Int.reduceMul, Int.reduceNeg, Int.reduceSub, Int.reduceToNat, Nat.reduceAdd, Nat.reduceBEq, Nat.reduceEqDiff, Nat.reduceLT, Nat.reduceLeDiff, Nat.reduceMul, Nat.reduceSub]) <;> rfl, rfl, rfl, rfl⟩) ?_
  rintro ex ρ2 ms2 h2 d2 ⟨rfl, rfl, rfl, rfl⟩
  repeat (first | apply run_seq | apply run_block | apply end_seq | apply end_blk_hit | apply end_blk_miss rfl | apply end_blk | apply end_seq_exit | apply end_seq_ret | apply end_blk_ret | apply run_skip | apply run_ret | apply run_exit | (apply run_region (by decide); (simp only [go_sem, ↓reduceIte, Int.reduceAdd, Int.reduceEq, Int.reduceLE, Int.reduceLT, Int.reduceMul, Int.reduceNeg, Int.reduceSub, Int.reduceToNat, Nat.reduceAdd, Nat.reduceBEq, Nat.reduceEqDiff, Nat.reduceLT, Nat.reduceLeDiff, Nat.reduceMul, Nat.reduceSub, awake_call]; rfl)) | (refine run_cond_t ?_ ?_; · simp only [go_sem, ↓reduceIte, Nat.reduceEqDiff]) | (refine run_cond_f ?_ ?_; · simp only [go_sem, ↓reduceIte, Nat.reduceEqDiff]))
  refine end_nil (q_ret1 _ (by simp only [go_sem, ↓reduceIte, Int.reduceAdd, Int.reduceEq, Int.reduceLE, Int.reduceLT, Int.reduceMul, Int.reduceNeg, Int.reduceSub, Int.reduceToNat, Nat.reduceAdd, Nat.reduceBEq, Nat.reduceEqDiff, Nat.reduceLT, Nat.reduceLeDiff, Nat.reduceMul, Nat.reduceSub]) rfl ?_)
  exact take_of_same (by simp; simp at hml; omega) (fun j hj => by rw [hKHe _ j (by omega), hKh j hj])
end Go.Proofs.Ytecncmmkghmojaa.Sh

