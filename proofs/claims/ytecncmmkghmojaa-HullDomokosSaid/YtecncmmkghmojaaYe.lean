/- The law of Domokos, Papadopulos and Ruina. -/
import Derived.Test.YtecncmmkghmojaaYd
set_option linter.all false
namespace Go.Proofs.Ytecncmmkghmojaa.Sh
open Go Geo
set_option maxRecDepth 100000

theorem firm_rest (l : List (Int × Int)) (k : Nat) (h : tFirm l k = true) : tRest l k = true := by
  unfold tFirm firmB at h
  unfold tRest restB
  rw [Bool.and_eq_true, decide_eq_true_eq, decide_eq_true_eq] at h ⊢
  omega

theorem firm_loop (cx : Cx) {h : SHeap} {a u w : Value} {l : List (Int × Int)} (T : Tame l) (ha : IS h a ((those l (tRest l)).map fun (i : Nat) => (i : Int))) (hu : IS h u ((those l (tFirm l)).map fun (i : Nat) => (i : Int))) (z : Int) :
    ∀ k ρ ms h' d', (∃ i : Nat, i + k = (those l (tFirm l)).length ∧ ρ 5 = w ∧ ρ 6 = a ∧ ρ 8 = u ∧ ρ 12 = .int .i64 z ∧ ρ 14 = .int .i64 i ∧ ms = [] ∧ h' = h ∧ d' = []) →
    LoopW M cx 8 sf13L1 ρ ms h' d' (fun ex ρ' ms' h' d' => ex = .exit 0 ∧ ρ' 5 = w ∧ ρ' 12 = .int .i64 z ∧ ms' = [] ∧ h' = h ∧ d' = []) := by
  have hn := T.hi
  have hul := those_len l (tFirm l)
  refine loop_run _ ?_
  rintro k ρ ms h' d' ⟨i, hi, h5, h6, h8, h12, h14, rfl, rfl, rfl⟩
  have huk := hu
  obtain ⟨ua, uc, rfl, kk⟩ := huk
  unfold sf13L1
  by_cases hk : k = 0
  · have e1 : ¬ ((i : Int) < (those l (tFirm l)).length) := by omega
    repeat (first | apply run_seq | apply run_block | apply end_seq | apply end_blk_hit | apply end_blk_miss rfl | apply end_blk | apply end_seq_exit | apply end_seq_ret | apply end_blk_ret | apply run_skip | apply run_ret | apply run_exit | (apply run_region (by decide); (simp only [go_sem, ↓reduceIte, Int.reduceAdd, Int.reduceEq, Int.reduceLE, Int.reduceLT, Int.reduceMul, Int.reduceNeg, Int.reduceSub, Int.reduceToNat, Nat.reduceAdd, Nat.reduceBEq, Nat.reduceEqDiff, Nat.reduceLT, Nat.reduceLeDiff, Nat.reduceMul, Nat.reduceSub, h8, h14, e1, List.length_map]; rfl)) | (refine run_cond_t ?_ ?_; · simp only [go_sem, ↓reduceIte, Nat.reduceEqDiff]) | (refine run_cond_f ?_ ?_; · simp only [go_sem, ↓reduceIte, Nat.reduceEqDiff]))
    refine end_nil ⟨rfl, ?_, ?_, rfl, rfl, rfl⟩
    · simp only [go_sem, ↓reduceIte, Int.reduceAdd, Int.reduceEq, Int.reduceLE, Int.reduceLT, Int.reduceMul, Int.reduceNeg, Int.reduceSub, Int.reduceToNat, Nat.reduceAdd, Nat.reduceBEq, Nat.reduceEqDiff, Nat.reduceLT, Nat.reduceLeDiff, Nat.reduceMul, Nat.reduceSub, h5]
    · simp only [go_sem, ↓reduceIte, Int.reduceAdd, Int.reduceEq, Int.reduceLE, Int.reduceLT, Int.reduceMul, Int.reduceNeg, Int.reduceSub, Int.reduceToNat, Nat.reduceAdd, Nat.reduceBEq, Nat.reduceEqDiff, Nat.reduceLT, Nat.reduceLeDiff, Nat.reduceMul, Nat.reduceSub, h12]
  · have e1 : (i : Int) < (those l (tFirm l)).length := by omega
    have e0 : (0 : Int) ≤ i := by omega
    have hil : i < (those l (tFirm l)).length := by omega
    have ew : IntKind.i64.wrap ((i : Int) + 1) = ((i + 1 : Nat) : Int) := by rw [wrap64 (by omega) (by omega)]; rfl
    obtain ⟨b, rfl, pb⟩ := kk (by intro e; rw [List.map_eq_nil_iff] at e; rw [e] at hil; simp at hil)
    obtain ⟨x, hx⟩ : ∃ x, (those l (tFirm l))[i]? = some x := ⟨_, List.getElem?_eq_getElem hil⟩
    have hmem := List.mem_of_getElem? hx
    unfold those at hmem
    rw [List.mem_filter, List.mem_range] at hmem
    obtain ⟨x1, x2⟩ := hmem
    have lx : loadS h' none (.pointer (some ⟨b, i, none⟩)) = some (.int .i64 (x : Int)) := by
      have hl : i < ((those l (tFirm l)).map fun (i : Nat) => (i : Int)).length := by simpa using hil
      rw [pb.load hl]
      have := List.getElem?_eq_getElem hil
      rw [hx] at this
      simp only [List.getElem_map, Option.some.injEq] at this ⊢
      rw [← this]
    have c28 := has28 (x : Int) ha (by rw [List.length_map]; have := those_len l (tRest l); omega)
    rw [mem_those x1, firm_rest l x x2] at c28
    repeat (first | apply run_seq | apply run_block | apply end_seq | apply end_blk_hit | apply end_blk_miss rfl | apply end_blk | apply end_seq_exit | apply end_seq_ret | apply end_blk_ret | apply run_skip | apply run_ret | apply run_exit | (apply run_region (by decide); (simp only [go_sem, ↓reduceIte, Int.reduceAdd, Int.reduceEq, Int.reduceLE, Int.reduceLT, Int.reduceMul, Int.reduceNeg, Int.reduceSub, Int.reduceToNat, Nat.reduceAdd, Nat.reduceBEq, Nat.reduceEqDiff, Nat.reduceLT, Nat.reduceLeDiff, Nat.reduceMul, Nat.reduceSub, h6, h8, h14, e0, e1, lx, c28, ew, List.length_map, Int.toNat_natCast]; rfl)) | (refine run_cond_t ?_ ?_; · simp only [go_sem, ↓reduceIte, Nat.reduceEqDiff]) | (refine run_cond_f ?_ ?_; · simp only [go_sem, ↓reduceIte, Nat.reduceEqDiff]))
    refine end_nil ⟨k - 1, by omega, i + 1, by omega, ?_, ?_, ?_, ?_, ?_, rfl, rfl, rfl⟩
    · simp only [go_sem, ↓reduceIte, Int.reduceAdd, Int.reduceEq, Int.reduceLE, Int.reduceLT, Int.reduceMul, Int.reduceNeg, Int.reduceSub, Int.reduceToNat, Nat.reduceAdd, Nat.reduceBEq, Nat.reduceEqDiff, Nat.reduceLT, Nat.reduceLeDiff, Nat.reduceMul, Nat.reduceSub, h5]
    · simp only [go_sem, ↓reduceIte, Int.reduceAdd, Int.reduceEq, Int.reduceLE, Int.reduceLT, Int.reduceMul, Int.reduceNeg, Int.reduceSub, Int.reduceToNat, Nat.reduceAdd, Nat.reduceBEq, Nat.reduceEqDiff, Nat.reduceLT, Nat.reduceLeDiff, Nat.reduceMul, Nat.reduceSub, h6]
    · simp only [go_sem, ↓reduceIte, Int.reduceAdd, Int.reduceEq, Int.reduceLE, Int.reduceLT, Int.reduceMul, Int.reduceNeg, Int.reduceSub, Int.reduceToNat, Nat.reduceAdd, Nat.reduceBEq, Nat.reduceEqDiff, Nat.reduceLT, Nat.reduceLeDiff, Nat.reduceMul, Nat.reduceSub, h8]
    · simp only [go_sem, ↓reduceIte, Int.reduceAdd, Int.reduceEq, Int.reduceLE, Int.reduceLT, Int.reduceMul, Int.reduceNeg, Int.reduceSub, Int.reduceToNat, Nat.reduceAdd, Nat.reduceBEq, Nat.reduceEqDiff, Nat.reduceLT, Nat.reduceLeDiff, Nat.reduceMul, Nat.reduceSub, h12]
    · simp only [go_sem, ↓reduceIte, Int.reduceAdd, Int.reduceEq, Int.reduceLE, Int.reduceLT, Int.reduceMul, Int.reduceNeg, Int.reduceSub, Int.reduceToNat, Nat.reduceAdd, Nat.reduceBEq, Nat.reduceEqDiff, Nat.reduceLT, Nat.reduceLeDiff, Nat.reduceMul, Nat.reduceSub, ew]

theorem leastln_loop (cx : Cx) {H : SHeap} {w : Value} {l : List (Int × Int)} (hw : PS H w l) (T : Tame l) {m : Nat} (hm : H[m]? = some (.cells [.int .i64 ((lnA l (lowF l l.length)).tdiv (lnG l (lowF l l.length))), .int .i64 ((lnB l (lowF l l.length)).tdiv (lnG l (lowF l l.length)))] 34 true 0 [])) :
    ∀ k ρ ms h' d', (∃ s : Nat, s + k = l.length ∧ ρ 5 = w ∧ ρ 12 = .int .i64 (lowF l l.length) ∧ ρ 15 = .pointer (some ⟨m, 0, none⟩) ∧ ρ 17 = .int .i64 s ∧ Ext H h' ∧ ms = [] ∧ d' = []) →
    LoopW M cx 8 sf13L0 ρ ms h' d' (fun ex ρ' ms' h' d' => ex = .exit 2 ∧ Ext H h' ∧ ms' = [] ∧ d' = []) := by
  have hn := T.hi
  have hi0 := lowF_lt (l := l) (by have := T.lo; omega) l.length (Nat.le_refl _)
  refine loop_run _ ?_
  rintro k ρ ms h' d' ⟨s, hs, h5, h12, h15, h17, E, rfl, rfl⟩
  have hwk := hw
  obtain ⟨wa, wc, rfl, -⟩ := hwk
  unfold sf13L0
  by_cases hk : k = 0
  · have e1 : ¬ ((s : Int) < l.length) := by omega
    repeat (first | apply run_seq | apply run_block | apply end_seq | apply end_blk_hit | apply end_blk_miss rfl | apply end_blk | apply end_seq_exit | apply end_seq_ret | apply end_blk_ret | apply run_skip | apply run_ret | apply run_exit | (apply run_region (by decide); (simp only [go_sem, ↓reduceIte, Int.reduceAdd, Int.reduceEq, Int.reduceLE, Int.reduceLT, Int.reduceMul, Int.reduceNeg, Int.reduceSub, Int.reduceToNat, Nat.reduceAdd, Nat.reduceBEq, Nat.reduceEqDiff, Nat.reduceLT, Nat.reduceLeDiff, Nat.reduceMul, Nat.reduceSub, h5, h17, e1]; rfl)) | (refine run_cond_t ?_ ?_; · simp only [go_sem, ↓reduceIte, Nat.reduceEqDiff]) | (refine run_cond_f ?_ ?_; · simp only [go_sem, ↓reduceIte, Nat.reduceEqDiff]))
    exact end_nil ⟨rfl, E, rfl, rfl⟩
  · have e1 : (s : Int) < l.length := by omega
    have hsl : s < l.length := by omega
    have ew : IntKind.i64.wrap ((s : Int) + 1) = ((s + 1 : Nat) : Int) := by rw [wrap64 (by omega) (by omega)]; rfl
    have E0 := E
    obtain ⟨g, rfl⟩ := E
    obtain ⟨q1, q2⟩ := T.low_least l.length (Nat.le_refl _) s hsl
    have c29 := lean29 (hw.app g) T hsl
    have bs := lean_low T hsl
    have c30 := fun e => lean30 e bs.1 (by omega) bs.2.2.1 (by omega)
    have c31 := fun e => lessLn T hsl hi0 e
    have c31' := fun e => lessLn T hi0 hsl e
    rw [decide_eq_false q1] at c31
    have hml : m < H.length := (List.getElem?_eq_some_iff.1 hm).1
    have lm : ∀ e, loadS (H ++ (g ++ e)) (some 2) (.pointer (some ⟨m, 0, none⟩)) = some (.agg #[.int .i64 ((lnA l (lowF l l.length)).tdiv (lnG l (lowF l l.length))), .int .i64 ((lnB l (lowF l l.length)).tdiv (lnG l (lowF l l.length)))]) := fun e => by
      rw [load_rdON, List.getElem?_append_left hml, hm]; rfl
    have E2 := E0.app [SO.cells [.int .i64 ((lnA l s).tdiv (lnG l s)), .int .i64 ((lnB l s).tdiv (lnG l s))] 34 true 0 []]
    rw [List.append_assoc] at E2
    clear bs hm
    generalize (lnA l s).tdiv (lnG l s) = A at *
    generalize (lnB l s).tdiv (lnG l s) = B at *
    generalize (lnA l (lowF l l.length)).tdiv (lnG l (lowF l l.length)) = C at *
    generalize (lnB l (lowF l l.length)).tdiv (lnG l (lowF l l.length)) = D at *
    have la : loadS (H ++ (g ++ [SO.cells [.int .i64 A, .int .i64 B] 34 true 0 []])) (some 2) (.pointer (some ⟨H.length + g.length, 0, none⟩)) = some (.agg #[.int .i64 A, .int .i64 B]) := by
      rw [load_rdON, app_get, app_get0]; rfl
    by_cases c : s < lowF l l.length
    · have f1 : (s : Int) < lowF l l.length := by omega
      rw [decide_eq_true (q2 c)] at c31'
      repeat (first | apply run_seq | apply run_block | apply end_seq | apply end_blk_hit | apply end_blk_miss rfl | apply end_blk | apply end_seq_exit | apply end_seq_ret | apply end_blk_ret | apply run_skip | apply run_ret | apply run_exit | (apply run_region (by decide); (simp only [go_sem, ↓reduceIte, Int.reduceAdd, Int.reduceEq, Int.reduceLE, Int.reduceLT, Int.reduceMul, Int.reduceNeg, Int.reduceSub, Int.reduceToNat, Nat.reduceAdd, Nat.reduceBEq, Nat.reduceEqDiff, Nat.reduceLT, Nat.reduceLeDiff, Nat.reduceMul, Nat.reduceSub, h5, h12, h15, h17, e1, c29, c30, c31, c31', lm, la, f1, ew, List.append_assoc]; rfl)) | (refine run_cond_t ?_ ?_; · simp only [go_sem, ↓reduceIte, Nat.reduceEqDiff]) | (refine run_cond_f ?_ ?_; · simp only [go_sem, ↓reduceIte, Nat.reduceEqDiff]))
      refine end_nil ⟨k - 1, by omega, s + 1, by omega, ?_, ?_, ?_, ?_, E2, rfl, rfl⟩
      · simp only [go_sem, ↓reduceIte, Int.reduceAdd, Int.reduceEq, Int.reduceLE, Int.reduceLT, Int.reduceMul, Int.reduceNeg, Int.reduceSub, Int.reduceToNat, Nat.reduceAdd, Nat.reduceBEq, Nat.reduceEqDiff, Nat.reduceLT, Nat.reduceLeDiff, Nat.reduceMul, Nat.reduceSub, h5]
      · simp only [go_sem, ↓reduceIte, Int.reduceAdd, Int.reduceEq, Int.reduceLE, Int.reduceLT, Int.reduceMul, Int.reduceNeg, Int.reduceSub, Int.reduceToNat, Nat.reduceAdd, Nat.reduceBEq, Nat.reduceEqDiff, Nat.reduceLT, Nat.reduceLeDiff, Nat.reduceMul, Nat.reduceSub, h12]
      · simp only [go_sem, ↓reduceIte, Int.reduceAdd, Int.reduceEq, Int.reduceLE, Int.reduceLT, Int.reduceMul, Int.reduceNeg, Int.reduceSub, Int.reduceToNat, Nat.reduceAdd, Nat.reduceBEq, Nat.reduceEqDiff, Nat.reduceLT, Nat.reduceLeDiff, Nat.reduceMul, Nat.reduceSub, h15]
      · simp only [go_sem, ↓reduceIte, Int.reduceAdd, Int.reduceEq, Int.reduceLE, Int.reduceLT, Int.reduceMul, Int.reduceNeg, Int.reduceSub, Int.reduceToNat, Nat.reduceAdd, Nat.reduceBEq, Nat.reduceEqDiff, Nat.reduceLT, Nat.reduceLeDiff, Nat.reduceMul, Nat.reduceSub, ew]
    · have f1 : ¬ ((s : Int) < lowF l l.length) := by omega
      repeat (first | apply run_seq | apply run_block | apply end_seq | apply end_blk_hit | apply end_blk_miss rfl | apply end_blk | apply end_seq_exit | apply end_seq_ret | apply end_blk_ret | apply run_skip | apply run_ret | apply run_exit | (apply run_region (by decide); (simp only [go_sem, ↓reduceIte, Int.reduceAdd, Int.reduceEq, Int.reduceLE, Int.reduceLT, Int.reduceMul, Int.reduceNeg, Int.reduceSub, Int.reduceToNat, Nat.reduceAdd, Nat.reduceBEq, Nat.reduceEqDiff, Nat.reduceLT, Nat.reduceLeDiff, Nat.reduceMul, Nat.reduceSub, h5, h12, h15, h17, e1, c29, c30, c31, lm, la, f1, ew, List.append_assoc]; rfl)) | (refine run_cond_t ?_ ?_; · simp only [go_sem, ↓reduceIte, Nat.reduceEqDiff]) | (refine run_cond_f ?_ ?_; · simp only [go_sem, ↓reduceIte, Nat.reduceEqDiff]))
      refine end_nil ⟨k - 1, by omega, s + 1, by omega, ?_, ?_, ?_, ?_, E2, rfl, rfl⟩
      · simp only [go_sem, ↓reduceIte, Int.reduceAdd, Int.reduceEq, Int.reduceLE, Int.reduceLT, Int.reduceMul, Int.reduceNeg, Int.reduceSub, Int.reduceToNat, Nat.reduceAdd, Nat.reduceBEq, Nat.reduceEqDiff, Nat.reduceLT, Nat.reduceLeDiff, Nat.reduceMul, Nat.reduceSub, h5]
      · simp only [go_sem, ↓reduceIte, Int.reduceAdd, Int.reduceEq, Int.reduceLE, Int.reduceLT, Int.reduceMul, Int.reduceNeg, Int.reduceSub, Int.reduceToNat, Nat.reduceAdd, Nat.reduceBEq, Nat.reduceEqDiff, Nat.reduceLT, Nat.reduceLeDiff, Nat.reduceMul, Nat.reduceSub, h12]
      · simp only [go_sem, ↓reduceIte, Int.reduceAdd, Int.reduceEq, Int.reduceLE, Int.reduceLT, Int.reduceMul, Int.reduceNeg, Int.reduceSub, Int.reduceToNat, Nat.reduceAdd, Nat.reduceBEq, Nat.reduceEqDiff, Nat.reduceLT, Nat.reduceLeDiff, Nat.reduceMul, Nat.reduceSub, h15]
      · simp only [go_sem, ↓reduceIte, Int.reduceAdd, Int.reduceEq, Int.reduceLE, Int.reduceLT, Int.reduceMul, Int.reduceNeg, Int.reduceSub, Int.reduceToNat, Nat.reduceAdd, Nat.reduceBEq, Nat.reduceEqDiff, Nat.reduceLT, Nat.reduceLeDiff, Nat.reduceMul, Nat.reduceSub, ew]

/-- the law of Domokos -/
theorem law13 {h : SHeap} {v : Value} {l : List (Int × Int)} (hv : ArgS h v l) (z : Int) : M.call 13 [v, .int .i64 z] h = some (.bool true, h, []) := by
  obtain ⟨T, c, tm, hc, c18⟩ := tame18 hv z
  have hlo := tm.lo
  have hhi := tm.hi
  have hp : PS (h ++ [SO.cells (prs T) 53 true 0 []]) (.slice (some ⟨h.length, 0, none⟩) T.length c) T := ⟨_, _, rfl, fun _ => ⟨_, _, rfl, Prs.mk0 (by rw [app_get0]; rfl) rfl⟩⟩
  obtain ⟨u1, g1, c27, i1⟩ := nums_ex (e := fun u => .tuple #[u, .int .i64 0]) (L := those T (tRest T)) (rests27 hp tm (tRest T) (fun _ => rfl))
  have hp1 := hp.app g1
  obtain ⟨u2, g2, c37, i2⟩ := nums_ex (e := fun u => .tuple #[u, .int .i64 0]) (L := those T (tFirm T)) (firm37 hp1 tm (tFirm T) (fun _ => rfl))
  have hp2 := hp1.app g2
  obtain ⟨u3, g3, c38, i3⟩ := nums_ex (e := fun u => .tuple #[u, .int .i64 0]) (L := those T (tTip T)) (tips38 hp2 tm (tTip T) (fun _ => rfl))
  have hp3 := hp2.app g3
  have c42 := lowest42 hp3 tm
  have hi0 := lowF_lt (l := T) (by omega) T.length (Nat.le_refl _)
  have hleast := tm.low_least T.length (Nat.le_refl _)
  have hfirm := tm.least_firm hi0 (fun j hj => (hleast j hj).1)
  have i1' := (i1.app g2).app g3
  have i2' := i2.app g3
  have c28 := has28 (lowF T T.length : Int) i2' (by rw [List.length_map]; have := those_len T (tFirm T); omega)
  rw [mem_those hi0, hfirm] at c28
  have n1 := tm.two_firm
  have n2 := tm.tips_firm
  have n3 : (those T (tFirm T)).length ≤ (those T (tRest T)).length := (filter_lt (List.range T.length) (fun x _ hf => firm_rest T x hf)).1
  have f1 : ¬ (((those T (tFirm T)).length : Int) < 2) := by omega
  have f2 : ((those T (tTip T)).length : Int) = (those T (tFirm T)).length := by omega
  have f3 : ¬ (((those T (tRest T)).length : Int) < (those T (tFirm T)).length) := by omega
  have fl := firm_loop (w := .slice (some ⟨h.length, 0, none⟩) T.length c) ⟨h.length, none, 13⟩ tm i1' i2' (lowF T T.length)
  have c29 := lean29 hp3 tm hi0
  have bs := lean_low tm hi0
  have c30 := fun e => lean30 e bs.1 (by omega) bs.2.2.1 (by omega)
  have hm : (h ++ [SO.cells (prs T) 53 true 0 []] ++ g1 ++ g2 ++ g3 ++ [SO.cells [.int .i64 ((lnA T (lowF T T.length)).tdiv (lnG T (lowF T T.length))), .int .i64 ((lnB T (lowF T T.length)).tdiv (lnG T (lowF T T.length)))] 34 true 0 []])[h.length + (g1.length + (g2.length + g3.length) + 1)]? = some (.cells [.int .i64 ((lnA T (lowF T T.length)).tdiv (lnG T (lowF T T.length))), .int .i64 ((lnB T (lowF T T.length)).tdiv (lnG T (lowF T T.length)))] 34 true 0 []) := by
    have e : h.length + (g1.length + (g2.length + g3.length) + 1) = (h ++ [SO.cells (prs T) 53 true 0 []] ++ g1 ++ g2 ++ g3).length := by
      simp only [List.length_append, List.length_cons, List.length_nil]; omega
    rw [e, app_get0]; rfl
  have ll := leastln_loop ⟨h.length, none, 13⟩ (hp3.app [SO.cells [.int .i64 ((lnA T (lowF T T.length)).tdiv (lnG T (lowF T T.length))), .int .i64 ((lnB T (lowF T T.length)).tdiv (lnG T (lowF T T.length)))] 34 true 0 []]) tm hm
  have hm' : loadS (h ++ [SO.cells (prs T) 53 true 0 []] ++ g1 ++ g2 ++ g3 ++ [SO.cells [.int .i64 ((lnA T (lowF T T.length)).tdiv (lnG T (lowF T T.length))), .int .i64 ((lnB T (lowF T T.length)).tdiv (lnG T (lowF T T.length)))] 34 true 0 []]) (some 2) (.pointer (some ⟨h.length + (g1.length + (g2.length + g3.length) + 1), 0, none⟩)) = some (.agg #[.int .i64 ((lnA T (lowF T T.length)).tdiv (lnG T (lowF T T.length))), .int .i64 ((lnB T (lowF T T.length)).tdiv (lnG T (lowF T T.length)))]) := by
    rw [load_rdON, hm]; rfl
  obtain ⟨s1, t1, rfl⟩ := i1.shape
  obtain ⟨s2, t2, rfl⟩ := i2.shape
  obtain ⟨s3, t3, rfl⟩ := i3.shape
  simp only [List.append_assoc, List.cons_append, List.nil_append, List.length_map] at c18 c27 c37 c38 c42 c28 c29 fl ll hm'
  refine call_run sf13 rfl rfl rfl ?_
  unfold sf13
  repeat (first | apply run_seq | apply run_block | apply end_seq | apply end_blk_hit | apply end_blk_miss rfl | apply end_blk | apply end_seq_exit | apply end_seq_ret | apply end_blk_ret | apply run_skip | apply run_ret | apply run_exit | (apply run_region (by decide); (simp only [go_sem, ↓reduceIte, Int.reduceAdd, Int.reduceEq, Int.reduceLE, Int.reduceLT, Int.reduceMul, Int.reduceNeg, Int.reduceSub, Int.reduceToNat, Nat.reduceAdd, Nat.reduceBEq, Nat.reduceEqDiff, Nat.reduceLT, Nat.reduceLeDiff, Nat.reduceMul, Nat.reduceSub, argR, c18, c27, c37, c38, c42, c28, f1, f2, f3, List.length_map]; rfl)) | (refine run_cond_t ?_ ?_; · simp only [go_sem, ↓reduceIte, Nat.reduceEqDiff]) | (refine run_cond_f ?_ ?_; · simp only [go_sem, ↓reduceIte, Nat.reduceEqDiff]))
  refine run_loop (fl (those T (tFirm T)).length _ _ _ _ ⟨0, by omega, by (simp only [go_sem, ↓reduceIte, Int.reduceAdd, Int.reduceEq, Int.reduceLE, Int.reduceLT, Int.reduceMul, Int.reduceNeg, Int.reduceSub, Int.reduceToNat, Nat.reduceAdd, Nat.reduceBEq, Nat.reduceEqDiff, Nat.reduceLT, Nat.reduceLeDiff, Nat.reduceMul, Nat.reduceSub]) <;> rfl, by (simp only [go_sem, ↓reduceIte, Int.reduceAdd, Int.reduceEq, Int.reduceLE, Int.reduceLT, Int.reduceMul, Int.reduceNeg, Int.reduceSub, Int.reduceToNat, Nat.reduceAdd, Nat.reduceBEq, Nat.reduceEqDiff, Nat.reduceLT, Nat.reduceLeDiff, Nat.reduceMul, Nat.reduceSub]) <;> rfl, by (simp only [go_sem, ↓reduceIte, Int.reduceAdd, Int.reduceEq, Int.reduceLE, Int.reduceLT, Int.reduceMul, Int.reduceNeg, Int.reduceSub, Int.reduceToNat, Nat.reduceAdd, Nat.reduceBEq, Nat.reduceEqDiff, Nat.reduceLT, Nat.reduceLeDiff, Nat.reduceMul, Nat.reduceSub]) <;> rfl, by (simp only [go_sem, ↓reduceIte, Int.reduceAdd, Int.reduceEq, Int.reduceLE, Int.reduceLT, Int.reduceMul, Int.reduceNeg, Int.reduceSub, Int.reduceToNat, Nat.reduceAdd, Nat.reduceBEq, Nat.reduceEqDiff, Nat.reduceLT, Nat.reduceLeDiff, Nat.reduceMul, Nat.reduceSub]) <;> rfl, by (simp only [go_sem, ↓reduceIte, Int.reduceAdd, Int.reduceEq, Int.reduceLE, Int.reduceLT, Int.reduceMul, Int.reduceNeg, Int.reduceSub, Int.reduceToNat, Nat.reduceAdd, Nat.reduceBEq, Nat.reduceEqDiff, Nat.reduceLT, Nat.reduceLeDiff, Nat.reduceMul, Nat.reduceSub]) <;> rfl, rfl, rfl, rfl⟩) ?_
  rintro ex ρ' ms' h1 d1 ⟨rfl, k5, k12, rfl, rfl, rfl⟩
  repeat (first | apply run_seq | apply run_block | apply end_seq | apply end_blk_hit | apply end_blk_miss rfl | apply end_blk | apply end_seq_exit | apply end_seq_ret | apply end_blk_ret | apply run_skip | apply run_ret | apply run_exit | (apply run_region (by decide); (simp only [go_sem, ↓reduceIte, Int.reduceAdd, Int.reduceEq, Int.reduceLE, Int.reduceLT, Int.reduceMul, Int.reduceNeg, Int.reduceSub, Int.reduceToNat, Nat.reduceAdd, Nat.reduceBEq, Nat.reduceEqDiff, Nat.reduceLT, Nat.reduceLeDiff, Nat.reduceMul, Nat.reduceSub, k5, k12, c29, c30, hm']; rfl)) | (refine run_cond_t ?_ ?_; · simp only [go_sem, ↓reduceIte, Nat.reduceEqDiff]) | (refine run_cond_f ?_ ?_; · simp only [go_sem, ↓reduceIte, Nat.reduceEqDiff]))
  refine run_loop (ll T.length _ _ _ _ ⟨0, by omega, by simp only [go_sem, ↓reduceIte, Int.reduceAdd, Int.reduceEq, Int.reduceLE, Int.reduceLT, Int.reduceMul, Int.reduceNeg, Int.reduceSub, Int.reduceToNat, Nat.reduceAdd, Nat.reduceBEq, Nat.reduceEqDiff, Nat.reduceLT, Nat.reduceLeDiff, Nat.reduceMul, Nat.reduceSub, k5], by simp only [go_sem, ↓reduceIte, Int.reduceAdd, Int.reduceEq, Int.reduceLE, Int.reduceLT, Int.reduceMul, Int.reduceNeg, Int.reduceSub, Int.reduceToNat, Nat.reduceAdd, Nat.reduceBEq, Nat.reduceEqDiff, Nat.reduceLT, Nat.reduceLeDiff, Nat.reduceMul, Nat.reduceSub, k12], by simp only [go_sem, ↓reduceIte, Int.reduceAdd, Int.reduceEq, Int.reduceLE, Int.reduceLT, Int.reduceMul, Int.reduceNeg, Int.reduceSub, Int.reduceToNat, Nat.reduceAdd, Nat.reduceBEq, Nat.reduceEqDiff, Nat.reduceLT, Nat.reduceLeDiff, Nat.reduceMul, Nat.reduceSub], by (simp only [go_sem, ↓reduceIte, Int.reduceAdd, Int.reduceEq, Int.reduceLE, Int.reduceLT, Int.reduceMul, Int.reduceNeg, Int.reduceSub, Int.reduceToNat, Nat.reduceAdd, Nat.reduceBEq, Nat.reduceEqDiff, Nat.reduceLT, Nat.reduceLeDiff, Nat.reduceMul, Nat.reduceSub]) <;> rfl, Ext.refl _, rfl, rfl⟩) ?_
  rintro ex ρ2 ms2 h2 d2 ⟨rfl, E, rfl, rfl⟩
  repeat (first | apply run_seq | apply run_block | apply end_seq | apply end_blk_hit | apply end_blk_miss rfl | apply end_blk | apply end_seq_exit | apply end_seq_ret | apply end_blk_ret | apply run_skip | apply run_ret | apply run_exit | (apply run_region (by decide); (simp only [go_sem, ↓reduceIte, Int.reduceAdd, Int.reduceEq, Int.reduceLE, Int.reduceLT, Int.reduceMul, Int.reduceNeg, Int.reduceSub, Int.reduceToNat, Nat.reduceAdd, Nat.reduceBEq, Nat.reduceEqDiff, Nat.reduceLT, Nat.reduceLeDiff, Nat.reduceMul, Nat.reduceSub, awake_call]; rfl)) | (refine run_cond_t ?_ ?_; · simp only [go_sem, ↓reduceIte, Nat.reduceEqDiff]) | (refine run_cond_f ?_ ?_; · simp only [go_sem, ↓reduceIte, Nat.reduceEqDiff]))
  refine end_nil (q_ret1 _ (by simp only [go_sem, ↓reduceIte, Int.reduceAdd, Int.reduceEq, Int.reduceLE, Int.reduceLT, Int.reduceMul, Int.reduceNeg, Int.reduceSub, Int.reduceToNat, Nat.reduceAdd, Nat.reduceBEq, Nat.reduceEqDiff, Nat.reduceLT, Nat.reduceLeDiff, Nat.reduceMul, Nat.reduceSub]) rfl ?_)
  obtain ⟨g, rfl⟩ := E
  rw [List.append_assoc]
  exact take_app _ _
end Go.Proofs.Ytecncmmkghmojaa.Sh

