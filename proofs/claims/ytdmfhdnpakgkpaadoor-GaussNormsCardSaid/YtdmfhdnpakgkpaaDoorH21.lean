/- GaussNorms: the law. -/
import Derived.Test.YtdmfhdnpakgkpaaDoorQf
import Derived.Test.YtdmfhdnpakgkpaaDoorQg
set_option linter.all false
/- GaussNorms: the law. -/
namespace Go.Proofs.YtdmfhdnpakgkpaaDoor.Sh
open Go Go.RowKit
set_option maxRecDepth 100000
set_option maxHeartbeats 4000000

theorem load_two {h' g : SHeap} {b : Nat} {p : Int × Int} {el : TypeId} (hs : h'[b]? = some (.cells [.int .i64 p.1, .int .i64 p.2] el true 0 [])) : loadS (h' ++ g) (some 2) (.pointer (some ⟨b, 0, none⟩)) = some (.agg #[.int .i64 p.1, .int .i64 p.2]) := by
  have hlt := (List.getElem?_eq_some_iff.1 hs).1
  rw [load_rdON, List.getElem?_append_left hlt, hs]
  rfl
theorem take_dec {L : List (Int × Int)} {i : Nat} (hil : i < L.length) (r : Int × Int) : decide (r ∈ L.take (i + 1)) = (decide (r ∈ L.take i) || decide (L[i] = r)) := by
  have e : L.take (i + 1) = L.take i ++ [L[i]] := by rw [List.take_add_one, List.getElem?_eq_getElem hil]; rfl
  rw [e]
  by_cases c1 : r ∈ L.take i
  · rw [decide_eq_true c1, decide_eq_true (List.mem_append.2 (.inl c1))]; rfl
  · rw [decide_eq_false c1, Bool.false_or]
    by_cases c2 : L[i] = r
    · rw [decide_eq_true c2, decide_eq_true (List.mem_append.2 (.inr (by simp [c2])))]
    · rw [decide_eq_false c2, decide_eq_false (fun hm => ?_)]
      rcases List.mem_append.1 hm with hm | hm
      · exact c1 hm
      · simp at hm; exact c2 hm.symm
theorem norms_loop (cx : Cx) {y r : Int × Int} {L : List (Int × Int)} (hy : Bd 30000 y) (h0 : y ≠ (0, 0)) (hall : ∀ p ∈ L, Bd 30000 p ∧ restP p y = p) (hpw : L.Pairwise (fun x y => cP x y < 0)) {A1 A2 B cap : Nat} (H : SHeap) (hA1 : H[A1]? = some (.cells [.int .i64 y.1, .int .i64 y.2] 34 true 0 [])) (hA2 : H[A2]? = some (.cells [.int .i64 r.1, .int .i64 r.2] 34 true 0 []))
    (hL : H[B]? = some (.cells (prs L) 34 true 0 [])) (hlen : L.length ≤ 2209) : ∀ k ρ ms h' d', (∃ (i : Nat) (g : SHeap), i + k = L.length ∧ ρ 3 = .pointer (some ⟨A1, 0, none⟩) ∧ ρ 14 = .pointer (some ⟨A2, 0, none⟩) ∧ ρ 16 = .slice (some ⟨B, 0, none⟩) L.length cap ∧ ρ 18 = .bool (decide (r ∈ L.take i)) ∧ ρ 19 = .int .i64 i ∧ h' = H ++ g ∧ ms = [] ∧ d' = []) →
    LoopW M2 cx 8 sf6L0 ρ ms h' d' (fun ex ρ' ms' h' d' => ex = .exit 0 ∧ ms' = [] ∧ d' = [] ∧ (∃ g, h' = H ++ g) ∧ ρ' 18 = .bool (decide (r ∈ L))) := by
  refine loop_run _ ?_
  rintro k ρ ms h' d' ⟨i, g, hi, r3, r14, r16, r18, r19, rfl, rfl, rfl⟩
  unfold sf6L0
  by_cases c : k = 0
  · have e1 : ¬ ((i : Int) < L.length) := by omega
    repeat (first | apply run_seq | apply run_block | apply end_seq | apply end_blk_hit | apply end_blk_miss rfl | apply end_blk | apply end_seq_exit | apply end_seq_ret | apply end_blk_ret | apply run_skip | apply run_ret | apply run_exit | (apply run_region (by decide); (simp (maxSteps := 9999999) only [go_sem, r16, r19, e1]; rfl)) | (apply run_regionN (by decide); (simp (maxSteps := 9999999) only [go_sem, r16, r19, e1]; rfl)) | (refine run_cond_t ?_ ?_; · simp only [go_sem]) | (refine run_cond_f ?_ ?_; · simp only [go_sem]))
    refine end_nil ⟨rfl, rfl, rfl, ⟨g, rfl⟩, ?_⟩
    rw [List.take_of_length_le (by omega)] at r18
    simp (maxSteps := 9999999) only [go_sem, r18]
  · have e1 : ((i : Int) < L.length) := by omega
    have e2 : (0 : Int) ≤ i := by omega
    have hil : i < L.length := by omega
    have ew : IntKind.i64.wrap ((i : Int) + 1) = ((i + 1 : Nat) : Int) := by rw [wrap64 (by omega) (by omega)]; rfl
    have hA1' : (H ++ g)[A1]? = some (.cells [.int .i64 y.1, .int .i64 y.2] 34 true 0 []) := by
      rw [List.getElem?_append_left (List.getElem?_eq_some_iff.1 hA1).1]; exact hA1
    have hA2' : (H ++ g)[A2]? = some (.cells [.int .i64 r.1, .int .i64 r.2] 34 true 0 []) := by
      rw [List.getElem?_append_left (List.getElem?_eq_some_iff.1 hA2).1]; exact hA2
    have hP : Prs (H ++ g) B 0 L := (Prs.mk0 (el := 34) hL rfl).app g
    obtain ⟨h1, hh1⟩ : ∃ h1, h1 = H ++ g := ⟨_, rfl⟩
    have fin : ∀ l, ∃ g', h1 ++ l = H ++ g' := fun l => ⟨g ++ l, by rw [hh1, List.append_assoc]⟩
    rw [← hh1] at hP hA1' hA2' ⊢
    have ly : ∀ l, loadS (h1 ++ l) (some 2) (.pointer (some ⟨A1, 0, none⟩)) = some (.agg #[.int .i64 y.1, .int .i64 y.2]) := fun l => load_two hA1'
    have lr : ∀ l, loadS (h1 ++ l) (some 2) (.pointer (some ⟨A2, 0, none⟩)) = some (.agg #[.int .i64 r.1, .int .i64 r.2]) := fun l => load_two hA2'
    have lp : ∀ l, loadS (h1 ++ l) (some 2) (.pointer (some ⟨B, i * 2, none⟩)) = some (.agg #[.int .i64 L[i].1, .int .i64 L[i].2]) := fun l => by have := (hP.app l).loadN hil; rw [Nat.zero_add] at this; exact this
    have lc1 : ∀ l, loadS (h1 ++ l) none (.pointer (some ⟨B, i * 2, none⟩)) = some (.int .i64 L[i].1) := fun l => by have := (hP.app l).load1 hil; rw [Nat.zero_add] at this; exact this
    have lc2 : ∀ l, loadS (h1 ++ l) none (.pointer (some ⟨B, i * 2 + 1, none⟩)) = some (.int .i64 L[i].2) := fun l => by have := (hP.app l).load2 hil; rw [Nat.zero_add] at this; exact this
    obtain ⟨hbp, hrz⟩ := hall L[i] (List.getElem_mem hil)
    have htk := take_dec hil r
    have hord : ∀ (h : 0 < i), cP L[i - 1] L[i] < 0 := fun h => List.pairwise_iff_getElem.1 hpw (i - 1) i (by omega) hil (by omega)
    have lq1 : ∀ (h : 0 < i) l, loadS (h1 ++ l) none (.pointer (some ⟨B, (i - 1) * 2, none⟩)) = some (.int .i64 L[i - 1].1) := fun h l => by have := (hP.app l).load1 (i := i - 1) (by omega); rw [Nat.zero_add] at this; exact this
    have lq2 : ∀ (h : 0 < i) l, loadS (h1 ++ l) none (.pointer (some ⟨B, (i - 1) * 2 + 1, none⟩)) = some (.int .i64 L[i - 1].2) := fun h l => by have := (hP.app l).load2 (i := i - 1) (by omega); rw [Nat.zero_add] at this; exact this
    have c33 := fun h => lift2 (quo33 hbp hy h0 h)
    rw [hrz] at c33
    clear hall hpw hP hL hA1 hA2 hA1' hA2'
    generalize L[i] = p at *
    generalize quoP p y = q at *
    by_cases hz : i = 0
    · have e3 : ¬ ((0 : Int) < (i : Int)) := by omega
      by_cases cf : r ∈ L.take i
      · rw [decide_eq_true cf] at r18 htk
        repeat (first | apply run_seq | apply run_block | apply end_seq | apply end_blk_hit | apply end_blk_miss rfl | apply end_blk | apply end_seq_exit | apply end_seq_ret | apply end_blk_ret | apply run_skip | apply run_ret | apply run_exit | (apply run_region (by decide); (simp (maxSteps := 9999999) only [go_sem, r3, r14, r16, r18, r19, e1, e2, e3, ly, lr, lp, c33, ew, Nat.add_assoc, Int.toNat_natCast]; rfl)) | (apply run_regionN (by decide); (simp (maxSteps := 9999999) only [go_sem, r3, r14, r16, r18, r19, e1, e2, e3, ly, lr, lp, c33, ew, Nat.add_assoc, Int.toNat_natCast]; rfl)) | (refine run_cond_t ?_ ?_; · simp only [go_sem]) | (refine run_cond_f ?_ ?_; · simp only [go_sem]))
        obtain ⟨g', hg'⟩ := fin [.cells [.int .i64 q.1, .int .i64 q.2] 34 true 0 [], .cells [.int .i64 p.1, .int .i64 p.2] 34 true 0 []]
        exact end_nil ⟨k - 1, by omega, i + 1, g', by omega, by simp (maxSteps := 9999999) only [go_sem, r3], by simp (maxSteps := 9999999) only [go_sem, r14], by simp (maxSteps := 9999999) only [go_sem, r16], by rw [htk]; simp (maxSteps := 9999999) only [go_sem], by simp (maxSteps := 9999999) only [go_sem, ew], hg', rfl, rfl⟩
      · rw [decide_eq_false cf] at r18 htk
        repeat (first | apply run_seq | apply run_block | apply end_seq | apply end_blk_hit | apply end_blk_miss rfl | apply end_blk | apply end_seq_exit | apply end_seq_ret | apply end_blk_ret | apply run_skip | apply run_ret | apply run_exit | (apply run_region (by decide); (simp (maxSteps := 9999999) only [go_sem, r3, r14, r16, r18, r19, e1, e2, e3, ly, lr, lp, c33, ew, Nat.add_assoc, Int.toNat_natCast]; rfl)) | (apply run_regionN (by decide); (simp (maxSteps := 9999999) only [go_sem, r3, r14, r16, r18, r19, e1, e2, e3, ly, lr, lp, c33, ew, Nat.add_assoc, Int.toNat_natCast]; rfl)) | (refine run_cond_t ?_ ?_; · simp only [go_sem]) | (refine run_cond_f ?_ ?_; · simp only [go_sem]))
        obtain ⟨g', hg'⟩ := fin [.cells [.int .i64 q.1, .int .i64 q.2] 34 true 0 [], .cells [.int .i64 p.1, .int .i64 p.2] 34 true 0 []]
        exact end_nil ⟨k - 1, by omega, i + 1, g', by omega, by simp (maxSteps := 9999999) only [go_sem, r3], by simp (maxSteps := 9999999) only [go_sem, r14], by simp (maxSteps := 9999999) only [go_sem, r16], by rw [htk, Bool.false_or]; simp (maxSteps := 9999999) only [go_sem], by simp (maxSteps := 9999999) only [go_sem, ew], hg', rfl, rfl⟩
    · have e3 : ((0 : Int) < (i : Int)) := by omega
      have hi0 : 0 < i := by omega
      have ez : IntKind.i64.wrap ((i : Int) - 1) = ((i - 1 : Nat) : Int) := by rw [wrap64 (by omega) (by omega)]; omega
      have e4 : (0 : Int) ≤ ((i - 1 : Nat) : Int) := by omega
      have e5 : ((i - 1 : Nat) : Int) < L.length := by omega
      have hord := hord hi0
      have lq1 := lq1 hi0
      have lq2 := lq2 hi0
      generalize L[i - 1]'(by omega) = u at *
      rw [cP_lt] at hord
      have fin2 := fin [.cells [.int .i64 q.1, .int .i64 q.2] 34 true 0 [], .cells [.int .i64 p.1, .int .i64 p.2] 34 true 0 []]
      obtain ⟨g', hg'⟩ := fin2
      rcases hord with hord | ⟨hord, hord2⟩
      · have o1 : ¬ (p.1 < u.1) := by omega
        have o2 : (u.1 = p.1) = False := eq_false (by omega)
        by_cases cf : r ∈ L.take i
        · rw [decide_eq_true cf] at r18 htk
          repeat (first | apply run_seq | apply run_block | apply end_seq | apply end_blk_hit | apply end_blk_miss rfl | apply end_blk | apply end_seq_exit | apply end_seq_ret | apply end_blk_ret | apply run_skip | apply run_ret | apply run_exit | (apply run_region (by decide); (simp (maxSteps := 9999999) only [go_sem, r3, r14, r16, r18, r19, e1, e2, e3, e4, e5, ez, o1, o2, ly, lr, lp, lc1, lc2, lq1, lq2, c33, ew, Nat.add_assoc, Int.toNat_natCast]; rfl)) | (apply run_regionN (by decide); (simp (maxSteps := 9999999) only [go_sem, r3, r14, r16, r18, r19, e1, e2, e3, e4, e5, ez, o1, o2, ly, lr, lp, lc1, lc2, lq1, lq2, c33, ew, Nat.add_assoc, Int.toNat_natCast]; rfl)) | (refine run_cond_t ?_ ?_; · simp only [go_sem]) | (refine run_cond_f ?_ ?_; · simp only [go_sem]))
          exact end_nil ⟨k - 1, by omega, i + 1, g', by omega, by simp (maxSteps := 9999999) only [go_sem, r3], by simp (maxSteps := 9999999) only [go_sem, r14], by simp (maxSteps := 9999999) only [go_sem, r16], by rw [htk]; simp (maxSteps := 9999999) only [go_sem], by simp (maxSteps := 9999999) only [go_sem, ew], hg', rfl, rfl⟩
        · rw [decide_eq_false cf] at r18 htk
          repeat (first | apply run_seq | apply run_block | apply end_seq | apply end_blk_hit | apply end_blk_miss rfl | apply end_blk | apply end_seq_exit | apply end_seq_ret | apply end_blk_ret | apply run_skip | apply run_ret | apply run_exit | (apply run_region (by decide); (simp (maxSteps := 9999999) only [go_sem, r3, r14, r16, r18, r19, e1, e2, e3, e4, e5, ez, o1, o2, ly, lr, lp, lc1, lc2, lq1, lq2, c33, ew, Nat.add_assoc, Int.toNat_natCast]; rfl)) | (apply run_regionN (by decide); (simp (maxSteps := 9999999) only [go_sem, r3, r14, r16, r18, r19, e1, e2, e3, e4, e5, ez, o1, o2, ly, lr, lp, lc1, lc2, lq1, lq2, c33, ew, Nat.add_assoc, Int.toNat_natCast]; rfl)) | (refine run_cond_t ?_ ?_; · simp only [go_sem]) | (refine run_cond_f ?_ ?_; · simp only [go_sem]))
          exact end_nil ⟨k - 1, by omega, i + 1, g', by omega, by simp (maxSteps := 9999999) only [go_sem, r3], by simp (maxSteps := 9999999) only [go_sem, r14], by simp (maxSteps := 9999999) only [go_sem, r16], by rw [htk, Bool.false_or]; simp (maxSteps := 9999999) only [go_sem], by simp (maxSteps := 9999999) only [go_sem, ew], hg', rfl, rfl⟩
      · have o1 : ¬ (p.1 < u.1) := by omega
        have o2 : (u.1 = p.1) = True := eq_true (by omega)
        have o3 : ¬ (p.2 ≤ u.2) := by omega
        by_cases cf : r ∈ L.take i
        · rw [decide_eq_true cf] at r18 htk
          repeat (first | apply run_seq | apply run_block | apply end_seq | apply end_blk_hit | apply end_blk_miss rfl | apply end_blk | apply end_seq_exit | apply end_seq_ret | apply end_blk_ret | apply run_skip | apply run_ret | apply run_exit | (apply run_region (by decide); (simp (maxSteps := 9999999) only [go_sem, r3, r14, r16, r18, r19, e1, e2, e3, e4, e5, ez, o1, o2, o3, ly, lr, lp, lc1, lc2, lq1, lq2, c33, ew, Nat.add_assoc, Int.toNat_natCast]; rfl)) | (apply run_regionN (by decide); (simp (maxSteps := 9999999) only [go_sem, r3, r14, r16, r18, r19, e1, e2, e3, e4, e5, ez, o1, o2, o3, ly, lr, lp, lc1, lc2, lq1, lq2, c33, ew, Nat.add_assoc, Int.toNat_natCast]; rfl)) | (refine run_cond_t ?_ ?_; · simp only [go_sem]) | (refine run_cond_f ?_ ?_; · simp only [go_sem]))
          exact end_nil ⟨k - 1, by omega, i + 1, g', by omega, by simp (maxSteps := 9999999) only [go_sem, r3], by simp (maxSteps := 9999999) only [go_sem, r14], by simp (maxSteps := 9999999) only [go_sem, r16], by rw [htk]; simp (maxSteps := 9999999) only [go_sem], by simp (maxSteps := 9999999) only [go_sem, ew], hg', rfl, rfl⟩
        · rw [decide_eq_false cf] at r18 htk
          repeat (first | apply run_seq | apply run_block | apply end_seq | apply end_blk_hit | apply end_blk_miss rfl | apply end_blk | apply end_seq_exit | apply end_seq_ret | apply end_blk_ret | apply run_skip | apply run_ret | apply run_exit | (apply run_region (by decide); (simp (maxSteps := 9999999) only [go_sem, r3, r14, r16, r18, r19, e1, e2, e3, e4, e5, ez, o1, o2, o3, ly, lr, lp, lc1, lc2, lq1, lq2, c33, ew, Nat.add_assoc, Int.toNat_natCast]; rfl)) | (apply run_regionN (by decide); (simp (maxSteps := 9999999) only [go_sem, r3, r14, r16, r18, r19, e1, e2, e3, e4, e5, ez, o1, o2, o3, ly, lr, lp, lc1, lc2, lq1, lq2, c33, ew, Nat.add_assoc, Int.toNat_natCast]; rfl)) | (refine run_cond_t ?_ ?_; · simp only [go_sem]) | (refine run_cond_f ?_ ?_; · simp only [go_sem]))
          exact end_nil ⟨k - 1, by omega, i + 1, g', by omega, by simp (maxSteps := 9999999) only [go_sem, r3], by simp (maxSteps := 9999999) only [go_sem, r14], by simp (maxSteps := 9999999) only [go_sem, r16], by rw [htk, Bool.false_or]; simp (maxSteps := 9999999) only [go_sem], by simp (maxSteps := 9999999) only [go_sem, ew], hg', rfl, rfl⟩
end Go.Proofs.YtdmfhdnpakgkpaaDoor.Sh


/- GaussNorms: the law, whole. -/
namespace Go.Proofs.YtdmfhdnpakgkpaaDoor.Sh
open Go Go.RowKit
set_option maxRecDepth 100000
set_option maxHeartbeats 8000000

/-- GaussNorms on the shadow machine -/
theorem law6 (x0 y0 : Int × Int) (h : SHeap) : M2.call 6 [agV x0, agV y0] h = some (.bool true, h, []) := by
  have c29 := fun h => lift2 (tame29 x0 (m := 150) (by omega) (by omega) h)
  have c30 := fun h => lift2 (some30 y0 (m := 15) (by omega) (by omega) h)
  have bx := tame_bd x0 (m := 150) (by omega)
  have by_ := some_bd y0 (m := 15) (by omega)
  have h0 := some_ne y0 15
  generalize tameP x0 150 = x at *
  generalize someP y0 15 = y at *
  have bx3 := bx.mono (show (150 : Int) ≤ 30000 by decide)
  have by3 := by_.mono (show (15 : Int) ≤ 30000 by decide)
  have hny := nrm_pos h0
  have hly := nrm_le by_
  have hlx := nrm_le bx
  have hx0 := nrm_nonneg x
  have hN : (nrm y).toNat ≤ 500 := by omega
  have hlen := len_restsL hN
  have hlen2 := rests_len by_ h0
  have bm : Bd 30000 (mulP x y) := by
    obtain ⟨a1, a2, a3, a4⟩ := bx
    obtain ⟨b1, b2, b3, b4⟩ := by_
    have m1 := mul_bd (A := 150) (C := 15) a1 a2 b1 b2
    have m2 := mul_bd (A := 150) (C := 15) a3 a4 b3 b4
    have m3 := mul_bd (A := 150) (C := 15) a1 a2 b3 b4
    have m4 := mul_bd (A := 150) (C := 15) a3 a4 b1 b2
    unfold mulP
    exact ⟨by dsimp only; omega, by dsimp only; omega, by dsimp only; omega, by dsimp only; omega⟩
  have bq := quo_bd bx (show 1 ≤ nrm y by omega)
  have br := rest_bd (x := x) (show 1 ≤ nrm y by omega) by_
  have hrn := rest_nrm (x := x) (show 1 ≤ nrm y by omega)
  have hq := quo_rest x y
  have hmul := nrm_mul x y
  have hrm : restP x y ∈ restsL y := by
    unfold restsL
    rw [mem_listR]
    refine ⟨?_, rest_rest _ h0⟩
    have hr2 : restP (restP x y) y = restP x y := rest_rest _ h0
    have hr0 := nrm_nonneg (restP x y)
    have := (lim_le hN).2
    have hl' : nrm y ≤ (lim (nrm y).toNat : Int) * lim (nrm y).toNat := by
      rw [← Int.natCast_mul]; omega
    have hL0 : (0 : Int) ≤ (lim (nrm y).toNat : Int) := by omega
    refine part_bd hL0 ?_
    have e : ((lim (nrm y).toNat : Int) + 1) * (lim (nrm y).toNat + 1) = (lim (nrm y).toNat : Int) * lim (nrm y).toNat + 2 * (lim (nrm y).toNat : Int) + 1 := by grind
    omega
  have c31 := fun h => lift2 (mul31 bx3 by3 bm h)
  have c32x := fun h => lift2 (norm32 bx3 h)
  have c32y := fun h => lift2 (norm32 by3 h)
  have c32p := fun h => lift2 (norm32 bm h)
  have c33 := fun h => lift2 (quo33 bx3 by3 h0 h)
  have c26q := fun h => lift2 (validR26 (quoP x y) h)
  have c26r := fun h => lift2 (validR26 (restP x y) h)
  rw [decide_eq_true (bq.mono (show (150 : Int) ≤ 30000 by decide))] at c26q
  rw [decide_eq_true (br.mono (show (15 : Int) ≤ 30000 by decide))] at c26r
  have c27 := fun h => lift2 (normR27 br (by decide) h)
  have c35 := fun h => lift2 (mulR35 bq by_ (by decide) h)
  have bqy : Bd 4500 (mulP (quoP x y) y) := by
    obtain ⟨a1, a2, a3, a4⟩ := bq
    obtain ⟨b1, b2, b3, b4⟩ := by_
    have m1 := mul_bd (A := 150) (C := 15) a1 a2 b1 b2
    have m2 := mul_bd (A := 150) (C := 15) a3 a4 b3 b4
    have m3 := mul_bd (A := 150) (C := 15) a1 a2 b3 b4
    have m4 := mul_bd (A := 150) (C := 15) a3 a4 b1 b2
    unfold mulP
    exact ⟨by dsimp only; omega, by dsimp only; omega, by dsimp only; omega, by dsimp only; omega⟩
  have c34 := fun h => lift2 (addR34 bqy br (by decide) h)
  rw [← hq] at c34
  have w1 : IntKind.i64.wrap (nrm x * nrm y) = nrm x * nrm y := by
    have h1 : 0 ≤ nrm x * nrm y := Int.mul_nonneg hx0 (by omega)
    have h2 : nrm x * nrm y ≤ 45000 * 450 := Int.mul_le_mul (by omega) (by omega) (by omega) (by omega)
    exact wrap64 (by omega) (by omega)
  have hr0 := nrm_nonneg (restP x y)
  have w2 : IntKind.i64.wrap (2 * nrm (restP x y)) = 2 * nrm (restP x y) := wrap64 (by omega) (by omega)
  have e2 : ¬ (nrm y < 2 * nrm (restP x y)) := by omega
  rw [hmul] at c32p
  have c25 : ∀ h, M2.call 25 [agV y] h = some (.tuple #[.slice (some ⟨h.length, 0, none⟩) (restsL y).length (UNK + 2), .int .i64 0], h ++ [.cells (prs (restsL y)) 34 true 0 []], []) := fun h => by
    have := rests25 y h
    unfold restsA resV resH at this
    rw [if_pos by3, if_neg (by omega), if_neg (by omega), if_neg (by omega)] at this
    exact this
  have eL : ((restsL y).length : Int) = nrm y := by omega
  have hall : ∀ p ∈ restsL y, Bd 30000 p ∧ restP p y = p := by
    intro p hp
    obtain ⟨g1, g2⟩ := mem_listR.1 hp
    have := (lim_le hN).1
    exact ⟨g1.mono (by omega), g2⟩
  generalize hqq : quoP x y = q at *
  generalize hrr : restP x y = r at *
  generalize hmm : mulP x y = m at *
  generalize hmq : mulP q y = mq at *
  have loop := norms_loop (L := restsL y) (r := r) (A1 := h.length + 1) (A2 := h.length + 4) (B := h.length + 5) (cap := UNK + 2) ⟨h.length, none, 6⟩ by3 h0 hall (lt_listR y _ _)
    (h ++ [.cells [.int .i64 x.1, .int .i64 x.2] 34 true 0 [], .cells [.int .i64 y.1, .int .i64 y.2] 34 true 0 [], .cells [.int .i64 m.1, .int .i64 m.2] 34 true 0 [], .cells [.int .i64 q.1, .int .i64 q.2] 34 true 0 [], .cells [.int .i64 r.1, .int .i64 r.2] 34 true 0 [], .cells (prs (restsL y)) 34 true 0 []])
    (by rw [app_get]; rfl) (by rw [app_get]; rfl) (by rw [app_get]; rfl) hlen
  refine call_run sf6 rfl rfl rfl ?_
  unfold sf6
  repeat (first | apply run_seq | apply run_block | apply end_seq | apply end_blk_hit | apply end_blk_miss rfl | apply end_blk | apply end_seq_exit | apply end_seq_ret | apply end_blk_ret | apply run_skip | apply run_ret | apply run_exit | (apply run_region (by decide); (simp (maxSteps := 9999999) only [go_sem, argR, c29, c30, c31, c32x, c32y, c32p, c33, c26q, c26r, c27, c35, c34, w1, w2, e2, c25, eL, Nat.add_assoc]; rfl)) | (apply run_regionN (by decide); (simp (maxSteps := 9999999) only [go_sem, argR, c29, c30, c31, c32x, c32y, c32p, c33, c26q, c26r, c27, c35, c34, w1, w2, e2, c25, eL, Nat.add_assoc]; rfl)) | (refine run_cond_t ?_ ?_; · simp only [go_sem]) | (refine run_cond_f ?_ ?_; · simp only [go_sem]))
  refine run_loop (loop (restsL y).length _ _ _ _ ⟨0, [], by omega, by simp (maxSteps := 9999999) only [go_sem], by simp (maxSteps := 9999999) only [go_sem], by simp (maxSteps := 9999999) only [go_sem], by (simp (maxSteps := 9999999) only [go_sem]) <;> rfl, by (simp (maxSteps := 9999999) only [go_sem]) <;> rfl, by (simp (maxSteps := 9999999) only [go_sem]) <;> rfl, rfl, rfl⟩) ?_
  rintro ex ρ' ms' h1 d1 ⟨rfl, rfl, rfl, ⟨g, rfl⟩, k18⟩
  rw [decide_eq_true hrm] at k18
  repeat (first | apply run_seq | apply run_block | apply end_seq | apply end_blk_hit | apply end_blk_miss rfl | apply end_blk | apply end_seq_exit | apply end_seq_ret | apply end_blk_ret | apply run_skip | apply run_ret | apply run_exit | (apply run_region (by decide); (simp (maxSteps := 9999999) only [go_sem, k18, awake_call2]; rfl)) | (apply run_regionN (by decide); (simp (maxSteps := 9999999) only [go_sem, k18, awake_call2]; rfl)) | (refine run_cond_t ?_ ?_; · simp only [go_sem]) | (refine run_cond_f ?_ ?_; · simp only [go_sem]))
  exact end_nil (q_ret1 _ (by simp (maxSteps := 9999999) only [go_sem]) rfl (take_app _ _))
end Go.Proofs.YtdmfhdnpakgkpaaDoor.Sh


