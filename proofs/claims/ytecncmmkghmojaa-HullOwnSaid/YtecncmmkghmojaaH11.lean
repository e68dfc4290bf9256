/- Around: the walk. -/
import Derived.Test.YtecncmmkghmojaaH10
set_option linter.all false
/- Around: the walk. -/
namespace Go.Proofs.Ytecncmmkghmojaa.Sh
open Go Geo
set_option maxRecDepth 100000

theorem ddg_pw : ∀ (r : List (Int × Int)) (a : Int × Int), (a :: r).Pairwise (fun p q => before q p = false) → (a :: ddg a r).Pairwise (fun p q => before p q = true)
  | [], a, _ => by simp [ddg]
  | b :: r, a, h => by
    obtain ⟨h1, h2⟩ := List.pairwise_cons.1 h
    obtain ⟨h3, h4⟩ := List.pairwise_cons.1 h2
    by_cases e : b = a
    · rw [ddg_eq e]
      exact ddg_pw r a (List.pairwise_cons.2 ⟨fun q hq => h1 q (by simp [hq]), h4⟩)
    · rw [ddg_ne e]
      have ih := ddg_pw r b h2
      refine List.pairwise_cons.2 ⟨fun q hq => ?_, ih⟩
      have hab : before a b = true := by
        rcases bf_total (h1 b (by simp)) with x | x
        · exact (e x).elim
        · exact x
      rcases List.mem_cons.1 hq with rfl | hq
      · exact hab
      · exact bf_trans hab ((List.pairwise_cons.1 ih).1 q hq)
theorem dd_pw {l : List (Int × Int)} (h : l.Pairwise (fun p q => before q p = false)) : (dd l).Pairwise (fun p q => before p q = true) := by
  cases l with
  | nil => exact List.Pairwise.nil
  | cons a r => exact ddg_pw r a h
theorem sort_pw {y : List (Int × Int)} (h : SortP y y.length) : y.Pairwise (fun p q => before q p = false) := by
  refine List.pairwise_iff_getElem.2 fun i j hi hj hij => ?_
  have := h i j hij hj
  unfold cn at this
  rw [List.getD_eq_getElem?_getD, List.getD_eq_getElem?_getD, List.getElem?_eq_getElem hi, List.getElem?_eq_getElem hj] at this
  exact this
theorem popR_ne (p : Int × Int) : ∀ {R : List (Int × Int)}, R ≠ [] → popR p R ≠ []
  | [], h => (h rfl).elim
  | [a], _ => by simp [popR]
  | a :: b :: r, _ => by
    by_cases c : Geo.turn b a p ≤ 0
    · rw [popR_pop c]; exact popR_ne p (by simp)
    · rw [popR_stop c]; simp
theorem hfold_len {l : List (Int × Int)} (h : 2 ≤ l.length) : 2 ≤ (hfold l).length := by
  have e1 : l = l.take (l.length - 1) ++ [l[l.length - 1]'(by omega)] := by
    have : l.take (l.length - 1 + 1) = l.take (l.length - 1) ++ [l[l.length - 1]'(by omega)] := by rw [List.take_add_one, List.getElem?_eq_getElem (by omega)]; rfl
    rw [← this, show l.length - 1 + 1 = l.length by omega, List.take_length]
  have e2 : l.take (l.length - 1) = l.take (l.length - 2) ++ [l[l.length - 2]'(by omega)] := by
    have : l.take (l.length - 2 + 1) = l.take (l.length - 2) ++ [l[l.length - 2]'(by omega)] := by rw [List.take_add_one, List.getElem?_eq_getElem (by omega)]; rfl
    rw [← this, show l.length - 2 + 1 = l.length - 1 by omega]
  rw [e1, hfold_snoc]
  have h1 : hfold (l.take (l.length - 1)) ≠ [] := by rw [e2, hfold_snoc]; simp
  have h2 := popR_ne (l[l.length - 1]'(by omega)) h1
  have : 0 < (popR (l[l.length - 1]'(by omega)) (hfold (l.take (l.length - 1)))).length := List.length_pos_iff.2 h2
  simp only [List.length_cons]
  omega

/-- one slice behind another, in a block with more behind it -/
theorem app_two {h : SHeap} {b1 b2 : Nat} {s1 s2 j1 j2 : List (Int × Int)} (h1 : h[b1]? = some (blk (s1 ++ j1))) (h2 : h[b2]? = some (blk (s2 ++ j2))) (hj : j1 ≠ []) (n1 : s1 ≠ []) (n2 : s2 ≠ []) (hn : s1.length + s2.length ≤ 1000) (c : Nat) (base : Nat) (d : List Nat) :
    appendS base h d 53 true 2 16 (.slice (some ⟨b1, 0, none⟩) s1.length (UNK + 2)) (.slice (some ⟨b2, 0, none⟩) s2.length c) = some (.slice (some ⟨h.length, 0, none⟩) (s1.length + s2.length) (UNK + 2), kill h b1 ++ [blk (s1 ++ s2)], d) := by
  have e0 : (s2.length == 0) = false := beq_eq_false_iff_ne.2 (fun e => n2 (List.length_eq_zero_iff.1 e))
  have e00 : (s1.length == 0) = false := beq_eq_false_iff_ne.2 (fun e => n1 (List.length_eq_zero_iff.1 e))
  have hseen : rdN h b2 0 (s2.length * 2) = some (prs s2) := by
    rw [rdN_def, h2]
    unfold blk
    dsimp only
    rw [readable_0, ble_dec, decide_eq_true (by rw [prs_app, List.length_append, prs_len, prs_len]; omega), if_pos (by rfl), List.drop_zero, prs_app, List.take_append_of_le_length (by rw [prs_len]; omega), List.take_of_length_le (by rw [prs_len]; omega)]
  have hsx : rdN h b1 0 (s1.length * 2) = some (prs s1) := by
    rw [rdN_def, h1]
    unfold blk
    dsimp only
    rw [readable_0, ble_dec, decide_eq_true (by rw [prs_app, List.length_append, prs_len, prs_len]; omega), if_pos (by rfl), List.drop_zero, prs_app, List.take_append_of_le_length (by rw [prs_len]; omega), List.take_of_length_le (by rw [prs_len]; omega)]
  have e1 : Nat.ble UNK (UNK + 2) = true := by decide
  have e2 : Nat.beq (UNK + 2) (UNK + 2) = true := Nat.beq_refl _
  have e3 : Nat.beq (0 + s1.length * 2) (prs (s1 ++ j1)).length = false := by
    rw [nbeq_dec]
    refine decide_eq_false ?_
    rw [prs_len, List.length_append]
    have : j1.length ≠ 0 := fun e => hj (List.length_eq_zero_iff.1 e)
    omega
  have e4 : Nat.ble ((s1.length + s2.length) * 16) 140737488355328 = true := by rw [ble_dec]; exact decide_eq_true (by omega)
  have e5 : Nat.blt 0 16 = true := by decide
  have o1 : (prs s2).all oneC = true := by
    have : ∀ (l : List (Int × Int)), (prs l).all oneC = true := by
      intro l
      induction l with
      | nil => rfl
      | cons p r ih => exact ih
    exact this s2
  unfold blk at h1
  unfold appendS
  simp only [lenS, seenS, hseen, hsx, e0, e00, h1, e1, e2, e3, e4, e5, o1, prs_sc, Bool.false_eq_true, if_false, if_true, Bool.and_self, Bool.not_true, Bool.false_or, Bool.or_self, beq_self_eq_true, blk]
  rw [prs_app]
  rfl
theorem app_zero (base : Nat) (h : SHeap) (d : List Nat) (x : Option Addr) (n c c' : Nat) (y : Option Addr) : appendS base h d 53 true 2 16 (.slice x n c) (.slice y 0 c') = some (.slice x n c, h, d) := rfl
theorem set_app0 (h : SHeap) (a x : SO) : (h ++ [a]).set h.length x = h ++ [x] := by simp
theorem set_app1 (h : SHeap) (a b x : SO) : (h ++ [a, b]).set (h.length + 1) x = h ++ [a, x] := by simp

theorem q_nil2 {base i j : Nat} {ρ : Reg} {h h0 : SHeap} {k : IntKind} {w : Int} (hv : ρ i = .slice none 0 0) (hj : ρ j = .int k w) (ht : h.take base = h0) :
    callQ [.tmp i, .tmp j] base (.tuple #[.slice none 0 0, .int k w], h0, []) .ret ρ [] h [] := by
  refine ⟨rfl, ?_⟩
  show opn (ρ i) fun v' => opn (ρ j) fun w' => endW base h [] (_, _, []) [v', w']
  rw [hv, hj]
  refine ⟨_, _, ?_, rfl⟩
  show gcS base (.tuple #[.slice none 0 0, .int k w]) h = _
  unfold gcS
  have : ptrs 3 (.tuple #[.slice none 0 0, .int k w]) = [] := rfl
  rw [this]
  rw [show (1000000 : Nat) = 999999 + 1 from rfl, reach]
  simp [renV, mapO, ht]

/-- 3 to 12 points -/
def ptsB (l : List (Int × Int)) : Bool := decide (3 ≤ l.length) && decide (l.length ≤ 12) && l.all ptB
theorem ptsB_in {l : List (Int × Int)} (h : ptsB l = true) : 3 ≤ l.length ∧ l.length ≤ 12 ∧ ∀ q ∈ l, inR q := by
  simp only [ptsB, Bool.and_eq_true, decide_eq_true_eq, List.all_eq_true] at h
  refine ⟨h.1.1, h.1.2, fun q hq => ?_⟩
  have := h.2 q hq
  simpa [ptB, inR] using this
theorem any_nptB (l : List (Int × Int)) : l.any (fun p => !ptB p) = !(l.all ptB) := by
  rw [List.not_all_eq_any_not]
theorem not86 (x y : Int) (h : SHeap) : M.call 86 [.agg #[.int .i64 x, .int .i64 y]] h = some (.bool (!ptB (x, y)), h, []) := by
  have c := fun h => point87 x y h
  refine call_run sf86 rfl rfl rfl ?_
  unfold sf86
  repeat (first | apply run_seq | apply run_block | apply end_seq | apply end_blk_hit | apply end_blk_miss rfl | apply end_blk | apply end_seq_exit | apply end_seq_ret | apply end_blk_ret | apply run_skip | apply run_ret | apply run_exit | (apply run_region (by decide); (simp only [go_sem, argR, c]; rfl)) | (refine run_cond_t ?_ ?_; · simp only [go_sem]) | (refine run_cond_f ?_ ?_; · simp only [go_sem]))
  exact end_nil (q_ret1 _ (by simp only [go_sem]) rfl (take_app _ _))

theorem tail_blk (l : List (Int × Int)) (h : l ≠ []) : l.reverse = l.tail.reverse ++ [l.headD (0, 0)] := by
  cases l with
  | nil => exact (h rfl).elim
  | cons a r => simp

/-- Around -/
theorem around56 {h : SHeap} {v : Value} {l : List (Int × Int)} (hv : PS h v l) (hb : ptsB l = true) :
    M.call 56 [v] h = some (if 3 ≤ (wrap l).length then (.tuple #[.slice (some ⟨h.length, 0, none⟩) (wrap l).length (UNK + 2), .int .i64 0], h ++ [blk (wrap l)], []) else (.tuple #[.slice none 0 0, .int .i64 30], h, [])) := by
  obtain ⟨n3, n12, hin⟩ := ptsB_in hb
  have e := contains85 86 (fun p => !ptB p) not86 hv (by omega)
  have hall : l.all ptB = true := by simp only [ptsB, Bool.and_eq_true] at hb; exact hb.2
  rw [any_nptB, hall] at e
  obtain ⟨a, c, rfl, kp⟩ := hv
  have hne : l ≠ [] := by intro x; rw [x] at n3; simp at n3
  obtain ⟨b, o, rfl, hp⟩ := kp hne
  have c1 : ¬ ((l.length : Int) < 3) := by omega
  have c2 : ¬ ((12 : Int) < l.length) := by omega
  have c88 := clone88 (c := c) hp rfl (by omega) (by omega)
  obtain ⟨y, hy, hperm, hsort, c89⟩ := sort89 (h := h ++ [blk l]) (b := h.length) (c := UNK + 2) (l := l) (by rw [app_get0]; rfl) (by omega) (by omega)
  rw [set_app0] at c89
  obtain ⟨z, hz, c92⟩ := comp92 (h := h ++ [blk y]) (b := h.length) (l := y) (by rw [app_get0]; rfl) (by omega) (by omega)
  rw [set_app0, hy] at c92
  have hsy : SortP y y.length := by rw [hy]; exact hsort
  have hD := dd_pw (sort_pw hsy)
  have hm : ∀ q, q ∈ l ↔ q ∈ dd y := fun q => by rw [dd_mem, hperm.mem_iff]
  have hDl := dd_le y
  have hDp : 1 ≤ (dd y).length := dd_pos (by intro x; rw [x] at hy; simp at hy; omega)
  generalize dd y = D at *
  have hin' : ∀ q ∈ D, inR q := fun q hq => hin q ((hm q).2 hq)
  have pD : Prs (h ++ [.cells (prs D ++ z) 53 true 0 []]) h.length 0 D := ⟨[], z, 53, true, 0, [], by rw [app_get0]; rfl, rfl, rfl⟩
  have c88' := clone88 (c := UNK + 2) pD rfl hDp (by omega)
  have hl1 : (h ++ [SO.cells (prs D ++ z) 53 true 0 []]).length = h.length + 1 := by simp
  rw [hl1, List.append_assoc] at c88'
  have c96 := rev96 (h := h ++ ([SO.cells (prs D ++ z) 53 true 0 []] ++ [blk D])) (b := h.length + 1) (c := UNK + 2) (l := D) (by rw [app_get]; rfl) (by omega) hDp
  simp only [List.singleton_append] at c88' c96
  rw [set_app1] at c96
  have p1 : Prs (h ++ [.cells (prs D ++ z) 53 true 0 [], blk D.reverse]) h.length 0 D := ⟨[], z, 53, true, 0, [], by rw [app_get0]; rfl, rfl, rfl⟩
  have c94 := half94 (c := UNK + 2) p1 rfl (by omega) hDp hin'
  have hl2 : (h ++ [SO.cells (prs D ++ z) 53 true 0 [], blk D.reverse]).length = h.length + 2 := by simp
  have p2 : Prs (h ++ [.cells (prs D ++ z) 53 true 0 [], blk D.reverse, blk (hfold D).reverse]) (h.length + 1) 0 D.reverse := Prs.mk0 (by rw [app_get]; rfl) rfl
  have c94' := half94 (c := UNK + 2) (n := D.length) p2 (by simp) (by omega) hDp (fun q hq => hin' q (List.mem_reverse.1 hq))
  have hl3 : (h ++ [SO.cells (prs D ++ z) 53 true 0 [], blk D.reverse, blk (hfold D).reverse]).length = h.length + 3 := by simp
  rw [hl2, List.append_assoc] at c94
  rw [hl3, List.append_assoc] at c94'
  simp only [List.cons_append, List.nil_append] at c94 c94'
  have hw2 := wrap_two hD hm
  by_cases hD1 : D.length = 1
  · have w1 : (wrap l).length < 3 := by
      refine wrap_one (fun p hp' q hq => ?_) hne
      have a1 := (hm p).1 hp'
      have a2 := (hm q).1 hq
      obtain ⟨x, rfl⟩ := List.length_eq_one_iff.1 hD1
      simp at a1 a2
      rw [a1, a2]
    rw [if_neg (by omega)]
    have f1 : (hfold D).length - 1 = 0 := by obtain ⟨x, rfl⟩ := List.length_eq_one_iff.1 hD1; rfl
    have f2 : (hfold D.reverse).length - 1 = 0 := by obtain ⟨x, rfl⟩ := List.length_eq_one_iff.1 hD1; rfl
    rw [f1] at c94
    rw [f2] at c94'
    refine call_run sf56 rfl rfl rfl ?_
    unfold sf56
    repeat (first | apply run_seq | apply run_block | apply end_seq | apply end_blk_hit | apply end_blk_miss rfl | apply end_blk | apply end_seq_exit | apply end_seq_ret | apply end_blk_ret | apply run_skip | apply run_ret | apply run_exit | (apply run_region (by decide); (simp only [go_sem, argR, c1, c2, e, c88, c89, c92, c88', c96, c94, c94', app_zero]; rfl)) | (refine run_cond_t ?_ ?_; · simp only [go_sem]) | (refine run_cond_f ?_ ?_; · simp only [go_sem]))
    exact end_nil (q_nil2 (by simp only [go_sem]) (by simp only [go_sem]) (take_app _ _))
  · have hD2 : 2 ≤ D.length := by omega
    have g1 := hfold_len hD2
    have g2 := hfold_len (l := D.reverse) (by simpa using hD2)
    have hw := hw2 hD2
    have s1 := tail_blk (hfold D) (by intro x; rw [x] at g1; simp at g1)
    have s2 := tail_blk (hfold D.reverse) (by intro x; rw [x] at g2; simp at g2)
    have t1 : (hfold D).length - 1 = (hfold D).tail.reverse.length := by simp
    have t2 : (hfold D.reverse).length - 1 = (hfold D.reverse).tail.reverse.length := by simp
    rw [t1, s1] at c94
    rw [t2, s1, s2] at c94'
    have hx : (hfold D).tail.reverse.length = (hfold D).length - 1 := by simp
    have hx' : (hfold D.reverse).tail.reverse.length = (hfold D.reverse).length - 1 := by simp
    have hk := (hfold_sub D).1
    have hk' := (hfold_sub D.reverse).1
    rw [List.length_reverse] at hk'
    have ap := fun base d => app_two (h := h ++ [SO.cells (prs D ++ z) 53 true 0 [], blk D.reverse, blk ((hfold D).tail.reverse ++ [(hfold D).headD (0, 0)]), blk ((hfold D.reverse).tail.reverse ++ [(hfold D.reverse).headD (0, 0)])]) (b1 := h.length + 2) (b2 := h.length + 3) (by rw [app_get]; rfl) (by rw [app_get]; rfl) (by simp) (by intro x; rw [x] at hx; simp at hx; omega) (by intro x; rw [x] at hx'; simp at hx'; omega) (by omega) (UNK + 2) base d
    rw [← hw] at ap
    have hwl : (wrap l).length = (hfold D).tail.reverse.length + (hfold D.reverse).tail.reverse.length := by rw [hw, List.length_append]
    rw [← hwl] at ap
    have hl4 : (h ++ [SO.cells (prs D ++ z) 53 true 0 [], blk D.reverse, blk ((hfold D).tail.reverse ++ [(hfold D).headD (0, 0)]), blk ((hfold D.reverse).tail.reverse ++ [(hfold D.reverse).headD (0, 0)])]).length = h.length + 4 := by simp
    have hkl := kill_ln (h ++ [SO.cells (prs D ++ z) 53 true 0 [], blk D.reverse, blk ((hfold D).tail.reverse ++ [(hfold D).headD (0, 0)]), blk ((hfold D.reverse).tail.reverse ++ [(hfold D.reverse).headD (0, 0)])]) (h.length + 2)
    have hkg := fun j hj => kill_gt (h ++ [SO.cells (prs D ++ z) 53 true 0 [], blk D.reverse, blk ((hfold D).tail.reverse ++ [(hfold D).headD (0, 0)]), blk ((hfold D.reverse).tail.reverse ++ [(hfold D.reverse).headD (0, 0)])]) (h.length + 2) j hj
    have hpre : ∀ j, j < h.length → (h ++ [SO.cells (prs D ++ z) 53 true 0 [], blk D.reverse, blk ((hfold D).tail.reverse ++ [(hfold D).headD (0, 0)]), blk ((hfold D.reverse).tail.reverse ++ [(hfold D.reverse).headD (0, 0)])])[j]? = h[j]? := fun j hj => List.getElem?_append_left hj
    rw [hl4] at ap hkl
    generalize (hfold D).tail.reverse.length = k1 at *
    generalize (hfold D.reverse).tail.reverse.length = k2 at *
    generalize (hfold D).tail.reverse ++ [(hfold D).headD (0, 0)] = B1 at *
    generalize (hfold D.reverse).tail.reverse ++ [(hfold D.reverse).headD (0, 0)] = B2 at *
    generalize hK : kill (h ++ [SO.cells (prs D ++ z) 53 true 0 [], blk D.reverse, blk B1, blk B2]) (h.length + 2) = K at *
    generalize (wrap l).length = N at *
    refine call_run sf56 rfl rfl rfl ?_
    unfold sf56
    by_cases hN : 3 ≤ N
    · rw [if_pos hN]
      have d1 : ¬ ((N : Int) < 3) := by omega
      repeat (first | apply run_seq | apply run_block | apply end_seq | apply end_blk_hit | apply end_blk_miss rfl | apply end_blk | apply end_seq_exit | apply end_seq_ret | apply end_blk_ret | apply run_skip | apply run_ret | apply run_exit | (apply run_region (by decide); (simp only [go_sem, argR, c1, c2, e, c88, c89, c92, c88', c96, c94, c94', ap, d1]; rfl)) | (refine run_cond_t ?_ ?_; · simp only [go_sem]) | (refine run_cond_f ?_ ?_; · simp only [go_sem]))
      have q := fun ρ => q_own2 (ρ := ρ) (H := h) (h := K ++ [blk (wrap l)]) (b := h.length + 4) (o := 0) (n := N) (c := UNK + 2) (cs := prs (wrap l)) (el := 53) (own := 0) (old := []) (i := 2) (j := 3) (w := .int .i64 0)
      refine end_nil (q _ (by simp only [go_sem]) (by simp only [go_sem]) rfl ?_ (by rw [← hkl, app_get0]; rfl) rfl (by omega))
      refine take_of_same (by simp; omega) fun j hj => ?_
      rw [List.getElem?_append_left (by omega), hkg j (by omega), hpre j hj]
    · rw [if_neg hN]
      have d1 : (N : Int) < 3 := by omega
      repeat (first | apply run_seq | apply run_block | apply end_seq | apply end_blk_hit | apply end_blk_miss rfl | apply end_blk | apply end_seq_exit | apply end_seq_ret | apply end_blk_ret | apply run_skip | apply run_ret | apply run_exit | (apply run_region (by decide); (simp only [go_sem, argR, c1, c2, e, c88, c89, c92, c88', c96, c94, c94', ap, d1]; rfl)) | (refine run_cond_t ?_ ?_; · simp only [go_sem]) | (refine run_cond_f ?_ ?_; · simp only [go_sem]))
      refine end_nil (q_nil2 (by simp only [go_sem]) (by simp only [go_sem]) ?_)
      refine take_of_same (by simp; omega) fun j hj => ?_
      rw [List.getElem?_append_left (by omega), hkg j (by omega), hpre j hj]
end Go.Proofs.Ytecncmmkghmojaa.Sh


/- HullAround: the law. -/
namespace Go.Proofs.Ytecncmmkghmojaa.Sh
open Go Geo
set_option maxRecDepth 100000

/-- pairs from the beginning of a block -/
def PZ (h : SHeap) (v : Value) (l : List (Int × Int)) : Prop := ∃ a c, v = .slice a l.length c ∧ (l ≠ [] → ∃ b, a = some ⟨b, 0, none⟩ ∧ Prs h b 0 l)
theorem PZ.ps {h : SHeap} {v : Value} {l : List (Int × Int)} (k : PZ h v l) : PS h v l := by
  obtain ⟨a, c, rfl, hk⟩ := k
  exact ⟨a, c, rfl, fun hn => let ⟨b, e, p⟩ := hk hn; ⟨b, 0, e, p⟩⟩
theorem PZ.app {h : SHeap} {v : Value} {l : List (Int × Int)} (k : PZ h v l) (h' : SHeap) : PZ (h ++ h') v l := by
  obtain ⟨a, c, rfl, hk⟩ := k
  exact ⟨a, c, rfl, fun hn => let ⟨b, e, p⟩ := hk hn; ⟨b, e, p.app h'⟩⟩
theorem PZ.mk0 {h : SHeap} {b n c : Nat} {l : List (Int × Int)} (hb : h[b]? = some (blk l)) (hn : n = l.length) : PZ h (.slice (some ⟨b, 0, none⟩) n c) l :=
  ⟨_, _, by rw [hn], fun _ => ⟨_, rfl, Prs.mk0 hb rfl⟩⟩
end Go.Proofs.Ytecncmmkghmojaa.Sh


