/- Roll of the program and of the document. -/
import Derived.Test.YtecncmmkghmojaaXu
set_option linter.all false
namespace Go.Proofs.Ytecncmmkghmojaa.Sh
open Go Geo
set_option maxRecDepth 100000

theorem natV_len (M : List Nat) : (natV M).length = M.length := by simp [natV]
/-- numbers gathered so far, the first one in a slice of its own -/
def Out (lo : Nat) (H h : SHeap) (v : Value) (M : List Nat) : Prop :=
  AccS H h v (natV M) M.length 1 3 ∨ (M.length = 1 ∧ ∃ b, v = .slice (some ⟨b, 0, none⟩) 1 1 ∧ h[b]? = some (.cells (natV M) 3 true 0 []) ∧ lo ≤ b ∧ H.length ≤ h.length ∧ ∀ j, j < H.length → h[j]? = H[j]?)
theorem Out.le {lo : Nat} {H h : SHeap} {v : Value} {M : List Nat} (O : Out lo H h v M) : H.length ≤ h.length ∧ ∀ j, j < H.length → h[j]? = H[j]? := by
  rcases O with A | ⟨_, b, _, _, _, h1, h2⟩
  · exact ⟨A.le, A.same⟩
  · exact ⟨h1, h2⟩
theorem Out.prs {lo : Nat} {H h : SHeap} {v : Value} {M : List Nat} (O : Out lo H h v M) {b o : Nat} {l : List (Int × Int)} (hp : Prs H b o l) : Prs h b o l := hp.same (O.le.2 b hp.lt)
theorem Out.body {lo : Nat} {H h : SHeap} {v : Value} {M : List Nat} (O : Out lo H h v M) {b cb c : Nat} {l : List (Int × Int)} {X Y D : Int} (hb : Body H b cb c l X Y D) : Body h b cb c l X Y D :=
  ⟨by rw [O.le.2 b hb.lt]; exact hb.1, O.prs hb.2⟩
theorem Out.ps {lo : Nat} {H h : SHeap} {v : Value} {M : List Nat} (O : Out lo H h v M) {w : Value} {l : List (Int × Int)} (hw : PS H w l) : PS h w l := by
  obtain ⟨a, c, rfl, k⟩ := hw
  exact ⟨a, c, rfl, fun hn => let ⟨b, o, e, p⟩ := k hn; ⟨b, o, e, O.prs p⟩⟩
theorem Out.push {lo : Nat} {H h : SHeap} {v : Value} {M : List Nat} (O : Out lo H h v M) (hM : M.length ≤ 1000) (g : SHeap) (j : Nat) :
    ∃ H2 v2, (∀ (base : Nat) (d : List Nat), appendS base (h ++ (g ++ [SO.cells [.int .i64 (j : Int)] 3 true 0 []])) d 3 true 1 8 v (.slice (some ⟨h.length + g.length, 0, none⟩) 1 1) = some (v2, H2, d)) ∧ Out lo H H2 v2 (M ++ [j]) := by
  have hbs : (h ++ (g ++ [SO.cells [.int .i64 (j : Int)] 3 true 0 []]))[h.length + g.length]? = some (.cells [.int .i64 (j : Int)] 3 true 0 []) := by rw [app_get, app_get0]; rfl
  rcases O with A | ⟨h1, b, rfl, h3, h4, h5, h6⟩
  · obtain ⟨H2, v2, ap, -, A2, -, -⟩ := (A.app (g ++ [SO.cells [.int .i64 (j : Int)] 3 true 0 []])).push (bytes := 8) hbs rfl rfl (by decide) rfl (by decide) (by omega)
    refine ⟨H2, v2, ap, .inl ?_⟩
    rw [natV_app, natV_one, List.length_append]; exact A2
  · have hbl : b < h.length := (List.getElem?_eq_some_iff.1 h3).1
    obtain ⟨H2, v2, ap, A2⟩ := full_push (H0 := H) (h := h ++ (g ++ [SO.cells [.int .i64 (j : Int)] 3 true 0 []])) (b := b) (n := 1) (s := 1) (cs := natV M) (el := 3) (bytes := 8) (by simp; omega) (fun j hj => by rw [List.getElem?_append_left (by omega)]; exact h6 j hj)
      (by rw [List.getElem?_append_left hbl]; exact h3) rfl (by rw [natV_len, h1]) (by decide) (by decide) (natV_sc _) hbs rfl rfl (by decide) rfl (by decide) (by omega)
    refine ⟨H2, v2, ap, .inl ?_⟩
    rw [natV_app, natV_one, List.length_append, h1]; exact A2
/-- numbers gathered are returned -/
theorem Out.ret1 {lo : Nat} {H g h : SHeap} {v : Value} {M : List Nat} (O : Out lo (H ++ g) h v M) (hlo : H.length ≤ lo) {i : Nat} {ρ : Reg} (hv : ρ i = v) :
    ∃ r, (∃ u k, r = (u, H ++ k, []) ∧ IS (H ++ k) u (M.map fun (i : Nat) => (i : Int))) ∧ callQ [.tmp i] H.length r .ret ρ [] h [] := by
  rcases O with A | ⟨h1, b, rfl, h3, h4, h5, h6⟩
  · obtain ⟨k, hk⟩ := resH_app H (natV M) M.length 3
    have := IS.ofRes H [] M 3
    rw [hk, List.append_nil] at this
    exact ⟨_, ⟨resV H M.length 1, k, rfl, this⟩, A.q1 rfl hk.symm hv⟩
  · have ht : h.take H.length = H := take_of_same (by simp at h5; omega) (fun j hj => by rw [h6 j (by simp; omega), List.getElem?_append_left hj])
    refine ⟨_, ⟨_, _, rfl, ?_⟩, q_own1 hv ht h3 rfl (by omega)⟩
    exact ⟨_, 1, by rw [List.length_map, h1], fun _ => ⟨_, rfl, 3, true, 0, _, by rw [app_get0]; rfl, rfl⟩⟩
theorem Out.ret2 {lo : Nat} {H g h : SHeap} {v : Value} {M : List Nat} (O : Out lo (H ++ g) h v M) (hlo : H.length ≤ lo) {i j : Nat} {ρ : Reg} (w : Value) (hv : ρ i = v) (hj : ρ j = w) (hw : flat 1 w = true) :
    ∃ r, (∃ u k, r = (.tuple #[u, w], H ++ k, []) ∧ IS (H ++ k) u (M.map fun (i : Nat) => (i : Int))) ∧ callQ [.tmp i, .tmp j] H.length r .ret ρ [] h [] := by
  rcases O with A | ⟨h1, b, rfl, h3, h4, h5, h6⟩
  · obtain ⟨k, hk⟩ := resH_app H (natV M) M.length 3
    have := IS.ofRes H [] M 3
    rw [hk, List.append_nil] at this
    exact ⟨_, ⟨resV H M.length 1, k, rfl, this⟩, A.q2 w rfl hk.symm hv hj hw⟩
  · have ht : h.take H.length = H := take_of_same (by simp at h5; omega) (fun j hj => by rw [h6 j (by simp; omega), List.getElem?_append_left hj])
    refine ⟨_, ⟨_, _, rfl, ?_⟩, q_own2 hv hj hw ht h3 rfl (by omega)⟩
    exact ⟨_, 1, by rw [List.length_map, h1], fun _ => ⟨_, rfl, 3, true, 0, _, by rw [app_get0]; rfl, rfl⟩⟩
theorem Out.app {lo : Nat} {H h : SHeap} {v : Value} {M : List Nat} (O : Out lo H h v M) (g : SHeap) : Out lo H (h ++ g) v M := by
  rcases O with A | ⟨h1, b, h2, h3, h4, h5, h6⟩
  · exact .inl (A.app _)
  · have hbl : b < h.length := (List.getElem?_eq_some_iff.1 h3).1
    exact .inr ⟨h1, b, h2, by rw [List.getElem?_append_left hbl]; exact h3, h4, by simp; omega, fun j hj => by rw [List.getElem?_append_left (by omega)]; exact h6 j hj⟩
theorem Out.one {H : SHeap} {b : Nat} (i : Nat) (hb : H[b]? = some (.cells [.int .i64 (i : Int)] 3 true 0 [])) : Out b H H (.slice (some ⟨b, 0, none⟩) 1 1) [i] :=
  .inr ⟨rfl, b, rfl, hb, Nat.le_refl _, Nat.le_refl _, fun j hj => rfl⟩

theorem roll_loop (cx : Cx) {lo : Nat} {H : SHeap} {b cb c : Nat} {l : List (Int × Int)} (hb : Body H b cb c l (mX l) (mY l) (mD l)) (T : Tame l) (R : List Nat) (hR : R.length ≤ 12) :
    ∀ k ρ ms h' d', (∃ (i : Nat) (L : List Nat) (v : Value), rank l i = k ∧ i < l.length ∧ L ++ roll l i = R ∧ ρ 1 = .int .i64 i ∧ ρ 6 = .pointer (some ⟨b, 0, none⟩) ∧ ρ 8 = .int .i64 l.length ∧ ρ 9 = v ∧ Out lo H h' v (L ++ [i]) ∧ ms = [] ∧ d' = []) →
    LoopW M cx 6 sf26L0 ρ ms h' d' (fun ex ρ' ms' h' d' => ex = .exit 0 ∧ ∃ v : Value, ρ' 9 = v ∧ Out lo H h' v R ∧ ms' = [] ∧ d' = []) := by
  have hn := T.hi
  refine loop_run _ ?_
  rintro k ρ ms h' d' ⟨i, L, v, hk, hil, hLR, h1, h6, h8, h9, O, rfl, rfl⟩
  unfold sf26L0
  have hbb := O.body hb
  have c67 := ends67 hbb hn hil
  have hp : inR (cn l i) := inR_getD T.inr i
  have hq : inR (cn l ((i + 1) % l.length)) := inR_getD T.inr ((i + 1) % l.length)
  have a1 := fun e => ahead68 (hbb.app e) T.fine hp hq
  have a2 := fun e => ahead68 (hbb.app e) T.fine hq hp
  have hLl : (L ++ [i]).length ≤ 1000 := by
    have := congrArg List.length hLR
    have hr1 : 1 ≤ (roll l i).length := by
      cases hr : tRest l i
      · rw [(roll_next T hil hr).1]; simp
      · rw [roll_rest hr]; simp
    simp at this ⊢; omega
  have e1 : IntKind.i64.wrap ((i : Int) + l.length) = ((i + l.length : Nat) : Int) := by rw [wrap64 (by omega) (by omega)]; rfl
  have e2 : IntKind.i64.wrap (((i + l.length : Nat) : Int) - 1) = ((i + l.length - 1 : Nat) : Int) := by rw [wrap64 (by omega) (by omega)]; omega
  have e3 : (((i + l.length - 1 : Nat) : Int)).tmod (l.length : Int) = (((i + l.length - 1) % l.length : Nat) : Int) := by rw [Int.tmod_eq_emod_of_nonneg (by omega)]; rfl
  have e4 : IntKind.i64.wrap ((i : Int) + 1) = ((i + 1 : Nat) : Int) := by rw [wrap64 (by omega) (by omega)]; rfl
  have e5 : (((i + 1 : Nat) : Int)).tmod (l.length : Int) = (((i + 1) % l.length : Nat) : Int) := by rw [Int.tmod_eq_emod_of_nonneg (by omega)]; rfl
  have hz : ¬ ((l.length : Int) = 0) := by omega
  have hnx := nxt_lt (l := l) (by omega) i
  have hrest : tRest l i = (decide (0 ≤ ahd (mX l) (mY l) (mD l) (cn l i) (cn l ((i + 1) % l.length))) && decide (0 ≤ ahd (mX l) (mY l) (mD l) (cn l ((i + 1) % l.length)) (cn l i))) := rfl
  by_cases c1 : ahd (mX l) (mY l) (mD l) (cn l i) (cn l ((i + 1) % l.length)) < 0
  · have hr : tRest l i = false := by rw [hrest, decide_eq_false (by omega), Bool.false_and]
    have ej : nxt l i = (i + l.length - 1) % l.length := by unfold nxt; rw [if_pos c1]
    obtain ⟨hroll, hrk⟩ := roll_next T hil hr
    rw [ej] at hroll hrk hnx
    obtain ⟨H2, v2, ap, O2⟩ := O.push hLl [SO.cells [.int .i64 (cn l i).1, .int .i64 (cn l i).2] 77 true 0 [], .cells [.int .i64 (cn l ((i + 1) % l.length)).1, .int .i64 (cn l ((i + 1) % l.length)).2] 77 true 0 []] ((i + l.length - 1) % l.length)
    simp only [List.cons_append, List.nil_append, List.length_cons, List.length_nil, Nat.zero_add] at ap
    generalize (i + l.length - 1) % l.length = j at *
    generalize (i + 1) % l.length = a at *
    generalize ahd (mX l) (mY l) (mD l) (cn l i) (cn l a) = A at *
    generalize ahd (mX l) (mY l) (mD l) (cn l a) (cn l i) = B at *
    generalize cn l i = p at *
    generalize cn l a = q at *
    repeat (first | apply run_seq | apply run_block | apply end_seq | apply end_blk_hit | apply end_blk_miss rfl | apply end_blk | apply end_seq_exit | apply end_seq_ret | apply end_blk_ret | apply run_skip | apply run_ret | apply run_exit | (apply run_region (by decide); (simp only [go_sem, ↓reduceIte, Int.reduceAdd, Int.reduceEq, Int.reduceLE, Int.reduceLT, Int.reduceMul, Int.reduceNeg, Int.reduceSub, Int.reduceToNat, Nat.reduceAdd, Nat.reduceBEq, Nat.reduceEqDiff, Nat.reduceLT, Nat.reduceLeDiff, Nat.reduceMul, Nat.reduceSub, h1, h6, h8, h9, c67, a1, c1, e1, e2, e3, hz, ap]; rfl)) | (refine run_cond_t ?_ ?_; · simp only [go_sem, ↓reduceIte, Nat.reduceEqDiff]) | (refine run_cond_f ?_ ?_; · simp only [go_sem, ↓reduceIte, Nat.reduceEqDiff]))
    refine end_nil ⟨rank l j, by omega, j, L ++ [i], v2, rfl, hnx, by rw [← hLR, hroll]; simp, ?_, ?_, ?_, ?_, O2, rfl, rfl⟩
    · simp only [go_sem, ↓reduceIte, Int.reduceAdd, Int.reduceEq, Int.reduceLE, Int.reduceLT, Int.reduceMul, Int.reduceNeg, Int.reduceSub, Int.reduceToNat, Nat.reduceAdd, Nat.reduceBEq, Nat.reduceEqDiff, Nat.reduceLT, Nat.reduceLeDiff, Nat.reduceMul, Nat.reduceSub]
    · simp only [go_sem, ↓reduceIte, Int.reduceAdd, Int.reduceEq, Int.reduceLE, Int.reduceLT, Int.reduceMul, Int.reduceNeg, Int.reduceSub, Int.reduceToNat, Nat.reduceAdd, Nat.reduceBEq, Nat.reduceEqDiff, Nat.reduceLT, Nat.reduceLeDiff, Nat.reduceMul, Nat.reduceSub, h6]
    · simp only [go_sem, ↓reduceIte, Int.reduceAdd, Int.reduceEq, Int.reduceLE, Int.reduceLT, Int.reduceMul, Int.reduceNeg, Int.reduceSub, Int.reduceToNat, Nat.reduceAdd, Nat.reduceBEq, Nat.reduceEqDiff, Nat.reduceLT, Nat.reduceLeDiff, Nat.reduceMul, Nat.reduceSub, h8]
    · simp only [go_sem, ↓reduceIte, Int.reduceAdd, Int.reduceEq, Int.reduceLE, Int.reduceLT, Int.reduceMul, Int.reduceNeg, Int.reduceSub, Int.reduceToNat, Nat.reduceAdd, Nat.reduceBEq, Nat.reduceEqDiff, Nat.reduceLT, Nat.reduceLeDiff, Nat.reduceMul, Nat.reduceSub]
  · by_cases c2 : ahd (mX l) (mY l) (mD l) (cn l ((i + 1) % l.length)) (cn l i) < 0
    · have hr : tRest l i = false := by
        rw [hrest, decide_eq_false (show ¬ 0 ≤ ahd (mX l) (mY l) (mD l) (cn l ((i + 1) % l.length)) (cn l i) by omega), Bool.and_false]
      have ej : nxt l i = (i + 1) % l.length := by unfold nxt; rw [if_neg c1]
      obtain ⟨hroll, hrk⟩ := roll_next T hil hr
      rw [ej] at hroll hrk hnx
      obtain ⟨H2, v2, ap, O2⟩ := O.push hLl [SO.cells [.int .i64 (cn l i).1, .int .i64 (cn l i).2] 77 true 0 [], .cells [.int .i64 (cn l ((i + 1) % l.length)).1, .int .i64 (cn l ((i + 1) % l.length)).2] 77 true 0 []] ((i + 1) % l.length)
      simp only [List.cons_append, List.nil_append, List.length_cons, List.length_nil, Nat.zero_add] at ap
      generalize (i + 1) % l.length = a at *
      generalize ahd (mX l) (mY l) (mD l) (cn l i) (cn l a) = A at *
      generalize ahd (mX l) (mY l) (mD l) (cn l a) (cn l i) = B at *
      generalize cn l i = p at *
      generalize cn l a = q at *
      repeat (first | apply run_seq | apply run_block | apply end_seq | apply end_blk_hit | apply end_blk_miss rfl | apply end_blk | apply end_seq_exit | apply end_seq_ret | apply end_blk_ret | apply run_skip | apply run_ret | apply run_exit | (apply run_region (by decide); (simp only [go_sem, ↓reduceIte, Int.reduceAdd, Int.reduceEq, Int.reduceLE, Int.reduceLT, Int.reduceMul, Int.reduceNeg, Int.reduceSub, Int.reduceToNat, Nat.reduceAdd, Nat.reduceBEq, Nat.reduceEqDiff, Nat.reduceLT, Nat.reduceLeDiff, Nat.reduceMul, Nat.reduceSub, h1, h6, h8, h9, c67, a1, a2, c1, c2, e4, e5, hz, ap]; rfl)) | (refine run_cond_t ?_ ?_; · simp only [go_sem, ↓reduceIte, Nat.reduceEqDiff]) | (refine run_cond_f ?_ ?_; · simp only [go_sem, ↓reduceIte, Nat.reduceEqDiff]))
      refine end_nil ⟨rank l a, by omega, a, L ++ [i], v2, rfl, hnx, by rw [← hLR, hroll]; simp, ?_, ?_, ?_, ?_, O2, rfl, rfl⟩
      · simp only [go_sem, ↓reduceIte, Int.reduceAdd, Int.reduceEq, Int.reduceLE, Int.reduceLT, Int.reduceMul, Int.reduceNeg, Int.reduceSub, Int.reduceToNat, Nat.reduceAdd, Nat.reduceBEq, Nat.reduceEqDiff, Nat.reduceLT, Nat.reduceLeDiff, Nat.reduceMul, Nat.reduceSub]
      · simp only [go_sem, ↓reduceIte, Int.reduceAdd, Int.reduceEq, Int.reduceLE, Int.reduceLT, Int.reduceMul, Int.reduceNeg, Int.reduceSub, Int.reduceToNat, Nat.reduceAdd, Nat.reduceBEq, Nat.reduceEqDiff, Nat.reduceLT, Nat.reduceLeDiff, Nat.reduceMul, Nat.reduceSub, h6]
      · simp only [go_sem, ↓reduceIte, Int.reduceAdd, Int.reduceEq, Int.reduceLE, Int.reduceLT, Int.reduceMul, Int.reduceNeg, Int.reduceSub, Int.reduceToNat, Nat.reduceAdd, Nat.reduceBEq, Nat.reduceEqDiff, Nat.reduceLT, Nat.reduceLeDiff, Nat.reduceMul, Nat.reduceSub, h8]
      · simp only [go_sem, ↓reduceIte, Int.reduceAdd, Int.reduceEq, Int.reduceLE, Int.reduceLT, Int.reduceMul, Int.reduceNeg, Int.reduceSub, Int.reduceToNat, Nat.reduceAdd, Nat.reduceBEq, Nat.reduceEqDiff, Nat.reduceLT, Nat.reduceLeDiff, Nat.reduceMul, Nat.reduceSub]
    · have hr : tRest l i = true := by rw [hrest, decide_eq_true (by omega), decide_eq_true (by omega)]; rfl
      have hLi : L ++ [i] = R := by rw [← hLR, roll_rest hr]
      have O2 : Out lo H (h' ++ [SO.cells [.int .i64 (cn l i).1, .int .i64 (cn l i).2] 77 true 0 [], .cells [.int .i64 (cn l ((i + 1) % l.length)).1, .int .i64 (cn l ((i + 1) % l.length)).2] 77 true 0 []]) v R := by
        rw [hLi] at O
        exact O.app _
      generalize (i + 1) % l.length = a at *
      generalize ahd (mX l) (mY l) (mD l) (cn l i) (cn l a) = A at *
      generalize ahd (mX l) (mY l) (mD l) (cn l a) (cn l i) = B at *
      generalize cn l i = p at *
      generalize cn l a = q at *
      repeat (first | apply run_seq | apply run_block | apply end_seq | apply end_blk_hit | apply end_blk_miss rfl | apply end_blk | apply end_seq_exit | apply end_seq_ret | apply end_blk_ret | apply run_skip | apply run_ret | apply run_exit | (apply run_region (by decide); (simp only [go_sem, ↓reduceIte, Int.reduceAdd, Int.reduceEq, Int.reduceLE, Int.reduceLT, Int.reduceMul, Int.reduceNeg, Int.reduceSub, Int.reduceToNat, Nat.reduceAdd, Nat.reduceBEq, Nat.reduceEqDiff, Nat.reduceLT, Nat.reduceLeDiff, Nat.reduceMul, Nat.reduceSub, h1, h6, h8, h9, c67, a1, a2, c1, c2]; rfl)) | (refine run_cond_t ?_ ?_; · simp only [go_sem, ↓reduceIte, Nat.reduceEqDiff]) | (refine run_cond_f ?_ ?_; · simp only [go_sem, ↓reduceIte, Nat.reduceEqDiff]))
      refine end_nil ⟨rfl, v, ?_, O2, rfl, rfl⟩
      simp only [go_sem, ↓reduceIte, Int.reduceAdd, Int.reduceEq, Int.reduceLE, Int.reduceLT, Int.reduceMul, Int.reduceNeg, Int.reduceSub, Int.reduceToNat, Nat.reduceAdd, Nat.reduceBEq, Nat.reduceEqDiff, Nat.reduceLT, Nat.reduceLeDiff, Nat.reduceMul, Nat.reduceSub, h9]

/-- Roll -/
theorem roll26 {h : SHeap} {v : Value} {l : List (Int × Int)} (hv : PS h v l) (T : Tame l) {i : Nat} (hi : i < l.length) :
    ∃ u g, M.call 26 [v, .int .i64 i] h = some (.tuple #[u, .int .i64 0], h ++ g, []) ∧ IS (h ++ g) u ((roll l i).map fun (i : Nat) => (i : Int)) := by
  have c66 := openSide66 hv T hi
  have hb := opened_body h l
  have lb := hb.load
  have hRl : (roll l i).length ≤ 12 := by have := roll_len T _ i hi (Nat.le_refl _); have := rank_le hi; have := T.hi; omega
  suffices h2 : ∃ r, (∃ u g, r = (.tuple #[u, .int .i64 0], h ++ g, []) ∧ IS (h ++ g) u ((roll l i).map fun (i : Nat) => (i : Int))) ∧ M.call 26 [v, .int .i64 i] h = some r by
    obtain ⟨r, ⟨u, g, rfl, k⟩, e⟩ := h2
    exact ⟨u, g, e, k⟩
  refine call_ex _ sf26 rfl rfl rfl ?_
  unfold sf26
  have e0 : ¬ ((0 : Int) ≠ 0) := by decide
  repeat (first | apply run_seq | apply run_block | apply end_seq | apply end_blk_hit | apply end_blk_miss rfl | apply end_blk | apply end_seq_exit | apply end_seq_ret | apply end_blk_ret | apply run_skip | apply run_ret | apply run_exit | (apply run_region (by decide); (simp only [go_sem, ↓reduceIte, Int.reduceAdd, Int.reduceEq, Int.reduceLE, Int.reduceLT, Int.reduceMul, Int.reduceNeg, Int.reduceSub, Int.reduceToNat, Nat.reduceAdd, Nat.reduceBEq, Nat.reduceEqDiff, Nat.reduceLT, Nat.reduceLeDiff, Nat.reduceMul, Nat.reduceSub, argR, c66, lb]; rfl)) | (refine run_cond_t ?_ ?_; · simp only [go_sem, ↓reduceIte, Nat.reduceEqDiff]) | (refine run_cond_f ?_ ?_; · simp only [go_sem, ↓reduceIte, Nat.reduceEqDiff]))
  have hH : (opened h l ++ [SO.cells [.int .i64 (i : Int)] 3 true 0 []])[(opened h l).length]? = some (.cells [.int .i64 (i : Int)] 3 true 0 []) := by rw [app_get0]; rfl
  refine run_loop (roll_loop _ (hb.app [SO.cells [.int .i64 (i : Int)] 3 true 0 []]) T (roll l i) hRl (rank l i) _ _ _ _ ⟨i, [], .slice (some ⟨(opened h l).length, 0, none⟩) 1 1, rfl, hi, rfl, by simp only [go_sem, ↓reduceIte, Int.reduceAdd, Int.reduceEq, Int.reduceLE, Int.reduceLT, Int.reduceMul, Int.reduceNeg, Int.reduceSub, Int.reduceToNat, Nat.reduceAdd, Nat.reduceBEq, Nat.reduceEqDiff, Nat.reduceLT, Nat.reduceLeDiff, Nat.reduceMul, Nat.reduceSub, argR], by simp only [go_sem, ↓reduceIte, Int.reduceAdd, Int.reduceEq, Int.reduceLE, Int.reduceLT, Int.reduceMul, Int.reduceNeg, Int.reduceSub, Int.reduceToNat, Nat.reduceAdd, Nat.reduceBEq, Nat.reduceEqDiff, Nat.reduceLT, Nat.reduceLeDiff, Nat.reduceMul, Nat.reduceSub], by simp only [go_sem, ↓reduceIte, Int.reduceAdd, Int.reduceEq, Int.reduceLE, Int.reduceLT, Int.reduceMul, Int.reduceNeg, Int.reduceSub, Int.reduceToNat, Nat.reduceAdd, Nat.reduceBEq, Nat.reduceEqDiff, Nat.reduceLT, Nat.reduceLeDiff, Nat.reduceMul, Nat.reduceSub], by simp only [go_sem, ↓reduceIte, Int.reduceAdd, Int.reduceEq, Int.reduceLE, Int.reduceLT, Int.reduceMul, Int.reduceNeg, Int.reduceSub, Int.reduceToNat, Nat.reduceAdd, Nat.reduceBEq, Nat.reduceEqDiff, Nat.reduceLT, Nat.reduceLeDiff, Nat.reduceMul, Nat.reduceSub], Out.one i hH, rfl, rfl⟩) ?_
  rintro ex ρ' ms' h1 d1 ⟨rfl, v5, k5, O, rfl, rfl⟩
  unfold opened at O
  rw [List.append_assoc] at O
  repeat (first | apply run_seq | apply run_block | apply end_seq | apply end_blk_hit | apply end_blk_miss rfl | apply end_blk | apply end_seq_exit | apply end_seq_ret | apply end_blk_ret | apply run_skip | apply run_ret | apply run_exit | (apply run_region (by decide); (simp only [go_sem, ↓reduceIte, Int.reduceAdd, Int.reduceEq, Int.reduceLE, Int.reduceLT, Int.reduceMul, Int.reduceNeg, Int.reduceSub, Int.reduceToNat, Nat.reduceAdd, Nat.reduceBEq, Nat.reduceEqDiff, Nat.reduceLT, Nat.reduceLeDiff, Nat.reduceMul, Nat.reduceSub, k5]; rfl)) | (refine run_cond_t ?_ ?_; · simp only [go_sem, ↓reduceIte, Nat.reduceEqDiff]) | (refine run_cond_f ?_ ?_; · simp only [go_sem, ↓reduceIte, Nat.reduceEqDiff]))
  refine end_nil (O.ret2 (by simp) (.int .i64 0) ?_ ?_ rfl)
  · simp only [go_sem, ↓reduceIte, Int.reduceAdd, Int.reduceEq, Int.reduceLE, Int.reduceLT, Int.reduceMul, Int.reduceNeg, Int.reduceSub, Int.reduceToNat, Nat.reduceAdd, Nat.reduceBEq, Nat.reduceEqDiff, Nat.reduceLT, Nat.reduceLeDiff, Nat.reduceMul, Nat.reduceSub, k5]
  · simp only [go_sem, ↓reduceIte, Int.reduceAdd, Int.reduceEq, Int.reduceLE, Int.reduceLT, Int.reduceMul, Int.reduceNeg, Int.reduceSub, Int.reduceToNat, Nat.reduceAdd, Nat.reduceBEq, Nat.reduceEqDiff, Nat.reduceLT, Nat.reduceLeDiff, Nat.reduceMul, Nat.reduceSub]

end Go.Proofs.Ytecncmmkghmojaa.Sh

