/- The law of the falls. -/
import Derived.Test.YtecncmmkghmojaaXw
set_option linter.all false
namespace Go.Proofs.Ytecncmmkghmojaa.Sh
open Go Geo
set_option maxRecDepth 100000

theorem has_loop (cx : Cx) {h : SHeap} {v : Value} {a : List Int} (x : Int) (hv : IS h v a) (hs : a.length < 4611686018427387904) : ∀ k ρ ms h' d', (∃ i : Nat, i + k = a.length ∧ ρ 0 = v ∧ ρ 1 = .int .i64 x ∧ ρ 5 = .int .i64 i ∧ x ∉ a.take i ∧ ms = [] ∧ h' = h ∧ d' = []) →
    LoopW M cx 5 sf28L0 ρ ms h' d' (fun ex ρ' ms' h' d' => ms' = [] ∧ h' = h ∧ d' = [] ∧ ((ex = .exit 0 ∧ x ∉ a) ∨ (ex = .ret ∧ ρ' 4 = .bool true ∧ x ∈ a))) := by
  obtain ⟨va, ca, rfl, ka⟩ := hv
  refine loop_run _ ?_
  rintro k ρ ms h' d' ⟨i, hi, h0, h1, h5, he, rfl, rfl, rfl⟩
  unfold sf28L0
  by_cases hk : k = 0
  · have e1 : ¬ ((i : Int) < a.length) := by omega
    have ei : i = a.length := by omega
    repeat (first | apply run_seq | apply run_block | apply end_seq | apply end_blk_hit | apply end_blk_miss rfl | apply end_blk | apply end_seq_exit | apply end_seq_ret | apply end_blk_ret | apply run_skip | apply run_ret | apply run_exit | (apply run_region (by decide); (simp only [go_sem, ↓reduceIte, Int.reduceAdd, Int.reduceEq, Int.reduceLE, Int.reduceLT, Int.reduceMul, Int.reduceNeg, Int.reduceSub, Int.reduceToNat, Nat.reduceAdd, Nat.reduceBEq, Nat.reduceEqDiff, Nat.reduceLT, Nat.reduceLeDiff, Nat.reduceMul, Nat.reduceSub, h0, h1, h5, e1]; rfl)) | (refine run_cond_t ?_ ?_; · simp only [go_sem, ↓reduceIte, Nat.reduceEqDiff]) | (refine run_cond_f ?_ ?_; · simp only [go_sem, ↓reduceIte, Nat.reduceEqDiff]))
    refine end_nil ⟨rfl, rfl, rfl, .inl ⟨rfl, ?_⟩⟩
    rw [ei, List.take_length] at he
    exact he
  · have e1 : (i : Int) < a.length := by omega
    have e2 : (0 : Int) ≤ i := by omega
    have hia : i < a.length := by omega
    have ew : IntKind.i64.wrap ((i : Int) + 1) = ((i + 1 : Nat) : Int) := by rw [wrap64 (by omega) (by omega)]; rfl
    obtain ⟨ba, rfl, pa⟩ := ka (by intro e; rw [e] at hia; simp at hia)
    have l1 := pa.load hia
    have t1 : a.take (i + 1) = a.take i ++ [a[i]] := by rw [List.take_add_one, List.getElem?_eq_getElem hia]; rfl
    have hmem : a[i] ∈ a := List.getElem_mem hia
    generalize a[i] = p at *
    by_cases hpq : p = x
    · subst hpq
      repeat (first | apply run_seq | apply run_block | apply end_seq | apply end_blk_hit | apply end_blk_miss rfl | apply end_blk | apply end_seq_exit | apply end_seq_ret | apply end_blk_ret | apply run_skip | apply run_ret | apply run_exit | (apply run_region (by decide); (simp only [go_sem, ↓reduceIte, Int.reduceAdd, Int.reduceEq, Int.reduceLE, Int.reduceLT, Int.reduceMul, Int.reduceNeg, Int.reduceSub, Int.reduceToNat, Nat.reduceAdd, Nat.reduceBEq, Nat.reduceEqDiff, Nat.reduceLT, Nat.reduceLeDiff, Nat.reduceMul, Nat.reduceSub, h0, h1, h5, e1, e2, l1, ew, Int.toNat_natCast]; rfl)) | (refine run_cond_t ?_ ?_; · simp only [go_sem, ↓reduceIte, Nat.reduceEqDiff]) | (refine run_cond_f ?_ ?_; · simp only [go_sem, ↓reduceIte, Nat.reduceEqDiff]))
      refine end_nil ⟨rfl, rfl, rfl, .inr ⟨rfl, ?_, hmem⟩⟩
      simp only [go_sem, ↓reduceIte, Int.reduceAdd, Int.reduceEq, Int.reduceLE, Int.reduceLT, Int.reduceMul, Int.reduceNeg, Int.reduceSub, Int.reduceToNat, Nat.reduceAdd, Nat.reduceBEq, Nat.reduceEqDiff, Nat.reduceLT, Nat.reduceLeDiff, Nat.reduceMul, Nat.reduceSub]
    · repeat (first | apply run_seq | apply run_block | apply end_seq | apply end_blk_hit | apply end_blk_miss rfl | apply end_blk | apply end_seq_exit | apply end_seq_ret | apply end_blk_ret | apply run_skip | apply run_ret | apply run_exit | (apply run_region (by decide); (simp only [go_sem, ↓reduceIte, Int.reduceAdd, Int.reduceEq, Int.reduceLE, Int.reduceLT, Int.reduceMul, Int.reduceNeg, Int.reduceSub, Int.reduceToNat, Nat.reduceAdd, Nat.reduceBEq, Nat.reduceEqDiff, Nat.reduceLT, Nat.reduceLeDiff, Nat.reduceMul, Nat.reduceSub, h0, h1, h5, e1, e2, l1, hpq, ew, Int.toNat_natCast]; rfl)) | (refine run_cond_t ?_ ?_; · simp only [go_sem, ↓reduceIte, Nat.reduceEqDiff]) | (refine run_cond_f ?_ ?_; · simp only [go_sem, ↓reduceIte, Nat.reduceEqDiff]))
      refine end_nil ⟨k - 1, by omega, i + 1, by omega, ?_, ?_, ?_, ?_, rfl, rfl, rfl⟩
      · simp only [go_sem, ↓reduceIte, Int.reduceAdd, Int.reduceEq, Int.reduceLE, Int.reduceLT, Int.reduceMul, Int.reduceNeg, Int.reduceSub, Int.reduceToNat, Nat.reduceAdd, Nat.reduceBEq, Nat.reduceEqDiff, Nat.reduceLT, Nat.reduceLeDiff, Nat.reduceMul, Nat.reduceSub, h0]
      · simp only [go_sem, ↓reduceIte, Int.reduceAdd, Int.reduceEq, Int.reduceLE, Int.reduceLT, Int.reduceMul, Int.reduceNeg, Int.reduceSub, Int.reduceToNat, Nat.reduceAdd, Nat.reduceBEq, Nat.reduceEqDiff, Nat.reduceLT, Nat.reduceLeDiff, Nat.reduceMul, Nat.reduceSub, h1]
      · simp only [go_sem, ↓reduceIte, Int.reduceAdd, Int.reduceEq, Int.reduceLE, Int.reduceLT, Int.reduceMul, Int.reduceNeg, Int.reduceSub, Int.reduceToNat, Nat.reduceAdd, Nat.reduceBEq, Nat.reduceEqDiff, Nat.reduceLT, Nat.reduceLeDiff, Nat.reduceMul, Nat.reduceSub, ew]
      · rw [t1]
        intro hm
        rcases List.mem_append.1 hm with hm | hm
        · exact he hm
        · simp at hm; exact hpq hm.symm

/-- has -/
theorem has28 {h : SHeap} {v : Value} {a : List Int} (x : Int) (hv : IS h v a) (hs : a.length < 4611686018427387904) : M.call 28 [v, .int .i64 x] h = some (.bool (decide (x ∈ a)), h, []) := by
  have hv0 := hv
  obtain ⟨va, ca, rfl, ka⟩ := hv
  refine call_run sf28 rfl rfl rfl ?_
  unfold sf28
  repeat (first | apply run_seq | apply run_block | apply end_seq | apply end_blk_hit | apply end_blk_miss rfl | apply end_blk | apply end_seq_exit | apply end_seq_ret | apply end_blk_ret | apply run_skip | apply run_ret | apply run_exit | (apply run_region (by decide); (simp only [go_sem, ↓reduceIte, Int.reduceAdd, Int.reduceEq, Int.reduceLE, Int.reduceLT, Int.reduceMul, Int.reduceNeg, Int.reduceSub, Int.reduceToNat, Nat.reduceAdd, Nat.reduceBEq, Nat.reduceEqDiff, Nat.reduceLT, Nat.reduceLeDiff, Nat.reduceMul, Nat.reduceSub, argR]; rfl)) | (refine run_cond_t ?_ ?_; · simp only [go_sem, ↓reduceIte, Nat.reduceEqDiff]) | (refine run_cond_f ?_ ?_; · simp only [go_sem, ↓reduceIte, Nat.reduceEqDiff]))
  refine run_loop (has_loop _ x hv0 hs a.length _ _ _ _ ⟨0, by omega, by simp only [go_sem, ↓reduceIte, Int.reduceAdd, Int.reduceEq, Int.reduceLE, Int.reduceLT, Int.reduceMul, Int.reduceNeg, Int.reduceSub, Int.reduceToNat, Nat.reduceAdd, Nat.reduceBEq, Nat.reduceEqDiff, Nat.reduceLT, Nat.reduceLeDiff, Nat.reduceMul, Nat.reduceSub, argR], by simp only [go_sem, ↓reduceIte, Int.reduceAdd, Int.reduceEq, Int.reduceLE, Int.reduceLT, Int.reduceMul, Int.reduceNeg, Int.reduceSub, Int.reduceToNat, Nat.reduceAdd, Nat.reduceBEq, Nat.reduceEqDiff, Nat.reduceLT, Nat.reduceLeDiff, Nat.reduceMul, Nat.reduceSub, argR], by (simp only [go_sem, ↓reduceIte, Int.reduceAdd, Int.reduceEq, Int.reduceLE, Int.reduceLT, Int.reduceMul, Int.reduceNeg, Int.reduceSub, Int.reduceToNat, Nat.reduceAdd, Nat.reduceBEq, Nat.reduceEqDiff, Nat.reduceLT, Nat.reduceLeDiff, Nat.reduceMul, Nat.reduceSub]) <;> rfl, by simp, rfl, rfl, rfl⟩) ?_
  rintro ex ρ' ms' h1 d1 ⟨rfl, rfl, rfl, ⟨rfl, he⟩ | ⟨rfl, h4, he⟩⟩
  · rw [decide_eq_false he]
    repeat (first | apply run_seq | apply run_block | apply end_seq | apply end_blk_hit | apply end_blk_miss rfl | apply end_blk | apply end_seq_exit | apply end_seq_ret | apply end_blk_ret | apply run_skip | apply run_ret | apply run_exit | (apply run_region (by decide); (simp only [go_sem, ↓reduceIte, Int.reduceAdd, Int.reduceEq, Int.reduceLE, Int.reduceLT, Int.reduceMul, Int.reduceNeg, Int.reduceSub, Int.reduceToNat, Nat.reduceAdd, Nat.reduceBEq, Nat.reduceEqDiff, Nat.reduceLT, Nat.reduceLeDiff, Nat.reduceMul, Nat.reduceSub]; rfl)) | (refine run_cond_t ?_ ?_; · simp only [go_sem, ↓reduceIte, Nat.reduceEqDiff]) | (refine run_cond_f ?_ ?_; · simp only [go_sem, ↓reduceIte, Nat.reduceEqDiff]))
    exact end_nil (q_ret1 _ (by simp only [go_sem, ↓reduceIte, Int.reduceAdd, Int.reduceEq, Int.reduceLE, Int.reduceLT, Int.reduceMul, Int.reduceNeg, Int.reduceSub, Int.reduceToNat, Nat.reduceAdd, Nat.reduceBEq, Nat.reduceEqDiff, Nat.reduceLT, Nat.reduceLeDiff, Nat.reduceMul, Nat.reduceSub]) rfl (take_self _))
  · rw [decide_eq_true he]
    repeat (first | apply run_seq | apply run_block | apply end_seq | apply end_blk_hit | apply end_blk_miss rfl | apply end_blk | apply end_seq_exit | apply end_seq_ret | apply end_blk_ret | apply run_skip | apply run_ret | apply run_exit | (apply run_region (by decide); (simp only [go_sem, ↓reduceIte, Int.reduceAdd, Int.reduceEq, Int.reduceLE, Int.reduceLT, Int.reduceMul, Int.reduceNeg, Int.reduceSub, Int.reduceToNat, Nat.reduceAdd, Nat.reduceBEq, Nat.reduceEqDiff, Nat.reduceLT, Nat.reduceLeDiff, Nat.reduceMul, Nat.reduceSub]; rfl)) | (refine run_cond_t ?_ ?_; · simp only [go_sem, ↓reduceIte, Nat.reduceEqDiff]) | (refine run_cond_f ?_ ?_; · simp only [go_sem, ↓reduceIte, Nat.reduceEqDiff]))
    exact end_nil (q_ret1 _ h4 rfl (take_self _))

/-- lean: can this be a lean? -/
theorem lean30 {a b : Int} (h : SHeap) (a1 : 0 < a) (a2 : a < 10000000000000000) (b1 : 0 < b) (b2 : b < 10000000000000000) : M.call 30 [.agg #[.int .i64 a, .int .i64 b]] h = some (.bool true, h, []) := by
  refine call_run sf30 rfl rfl rfl ?_
  unfold sf30
  repeat (first | apply run_seq | apply run_block | apply end_seq | apply end_blk_hit | apply end_blk_miss rfl | apply end_blk | apply end_seq_exit | apply end_seq_ret | apply end_blk_ret | apply run_skip | apply run_ret | apply run_exit | (apply run_region (by decide); (simp only [go_sem, ↓reduceIte, Int.reduceAdd, Int.reduceEq, Int.reduceLE, Int.reduceLT, Int.reduceMul, Int.reduceNeg, Int.reduceSub, Int.reduceToNat, Nat.reduceAdd, Nat.reduceBEq, Nat.reduceEqDiff, Nat.reduceLT, Nat.reduceLeDiff, Nat.reduceMul, Nat.reduceSub, argR, a1, a2, b1, b2]; rfl)) | (refine run_cond_t ?_ ?_; · simp only [go_sem, ↓reduceIte, Nat.reduceEqDiff]) | (refine run_cond_f ?_ ?_; · simp only [go_sem, ↓reduceIte, Nat.reduceEqDiff]))
  exact end_nil (q_ret1 _ (by simp only [go_sem, ↓reduceIte, Int.reduceAdd, Int.reduceEq, Int.reduceLE, Int.reduceLT, Int.reduceMul, Int.reduceNeg, Int.reduceSub, Int.reduceToNat, Nat.reduceAdd, Nat.reduceBEq, Nat.reduceEqDiff, Nat.reduceLT, Nat.reduceLeDiff, Nat.reduceMul, Nat.reduceSub]) rfl (take_app _ _))

theorem roll_head {l : List (Int × Int)} (T : Tame l) {i : Nat} (hi : i < l.length) : (roll l i)[0]? = some i := by
  cases hr : tRest l i
  · rw [(roll_next T hi hr).1]; rfl
  · rw [roll_rest hr]; rfl
theorem roll_at {l : List (Int × Int)} (T : Tame l) : ∀ (k i : Nat), i < l.length → rank l i ≤ k → ∀ j x, (roll l i)[j]? = some x → x < l.length ∧ tRest l x = decide (j + 1 = (roll l i).length) ∧ ∀ y, (roll l i)[j + 1]? = some y → y = nxt l x
  | k, i, hi, hk, j, x, hx => by
    cases hr : tRest l i
    · obtain ⟨h1, h2⟩ := roll_next T hi hr
      cases k with
      | zero => omega
      | succ k =>
        have hn := nxt_lt (l := l) (by omega) i
        have hh := roll_head T hn
        have hl1 : 1 ≤ (roll l (nxt l i)).length := by
          have := (List.getElem?_eq_some_iff.1 hh).1; omega
        rw [h1] at hx ⊢
        cases j with
        | zero =>
          simp at hx
          subst hx
          refine ⟨hi, by rw [hr, decide_eq_false (by rw [List.length_cons]; omega)], fun y hy => ?_⟩
          rw [List.getElem?_cons_succ, hh] at hy
          cases hy; rfl
        | succ j =>
          rw [List.getElem?_cons_succ] at hx
          obtain ⟨i1, i2, i3⟩ := roll_at T k (nxt l i) hn (by omega) j x hx
          refine ⟨i1, by rw [i2]; simp, fun y hy => i3 y (by rw [List.getElem?_cons_succ] at hy; exact hy)⟩
    · rw [roll_rest hr] at hx ⊢
      cases j with
      | zero => simp at hx; subst hx; exact ⟨hi, by rw [hr]; rfl, fun y hy => by simp at hy⟩
      | succ j => simp at hx
theorem mem_those {l : List (Int × Int)} {test : Nat → Bool} {x : Nat} (hx : x < l.length) : decide ((x : Int) ∈ (those l test).map fun (i : Nat) => (i : Int)) = test x := by
  have : ((x : Int) ∈ (those l test).map fun (i : Nat) => (i : Int)) ↔ test x = true := by
    simp only [those, List.mem_map, List.mem_filter, List.mem_range]
    constructor
    · rintro ⟨y, ⟨h1, h2⟩, h3⟩
      have : y = x := by omega
      rw [← this]; exact h2
    · intro h; exact ⟨x, ⟨hx, h⟩, rfl⟩
  cases ht : test x
  · exact decide_eq_false (fun h => by rw [this, ht] at h; cases h)
  · exact decide_eq_true (this.2 ht)

theorem falls_loop (cx : Cx) {H : SHeap} {w r a : Value} {l : List (Int × Int)} (hw : PS H w l) (T : Tame l) {s : Nat} (hs : s < l.length)
    (hr : IS H r ((roll l s).map fun (i : Nat) => (i : Int))) (ha : IS H a ((those l (tRest l)).map fun (i : Nat) => (i : Int))) :
    ∀ k ρ ms h' d', (∃ i : Nat, i + k = (roll l s).length ∧ ρ 7 = w ∧ ρ 8 = .int .i64 l.length ∧ ρ 10 = r ∧ ρ 12 = a ∧ ρ 14 = .int .i64 i ∧ Ext H h' ∧ ms = [] ∧ d' = []) →
    LoopW M cx 8 sf5L0 ρ ms h' d' (fun ex ρ' ms' h' d' => ex = .exit 0 ∧ Ext H h' ∧ ms' = [] ∧ d' = []) := by
  have hn := T.hi
  have hRl : (roll l s).length ≤ 12 := by have := roll_len T _ s hs (Nat.le_refl _); have := rank_le hs; omega
  refine loop_run _ ?_
  rintro k ρ ms h' d' ⟨i, hi, h7, h8, h10, h12, h14, E, rfl, rfl⟩
  have E0 := E
  obtain ⟨g, rfl⟩ := E
  have hw' := hw.app g
  have hr' := hr.app g
  have ha' := ha.app g
  have hrk := hr
  obtain ⟨ra, rc, rfl, -⟩ := hrk
  unfold sf5L0
  by_cases hk : k = 0
  · have e1 : ¬ ((i : Int) < (roll l s).length) := by omega
    repeat (first | apply run_seq | apply run_block | apply end_seq | apply end_blk_hit | apply end_blk_miss rfl | apply end_blk | apply end_seq_exit | apply end_seq_ret | apply end_blk_ret | apply run_skip | apply run_ret | apply run_exit | (apply run_region (by decide); (simp only [go_sem, ↓reduceIte, Int.reduceAdd, Int.reduceEq, Int.reduceLE, Int.reduceLT, Int.reduceMul, Int.reduceNeg, Int.reduceSub, Int.reduceToNat, Nat.reduceAdd, Nat.reduceBEq, Nat.reduceEqDiff, Nat.reduceLT, Nat.reduceLeDiff, Nat.reduceMul, Nat.reduceSub, h10, h14, e1, List.length_map]; rfl)) | (refine run_cond_t ?_ ?_; · simp only [go_sem, ↓reduceIte, Nat.reduceEqDiff]) | (refine run_cond_f ?_ ?_; · simp only [go_sem, ↓reduceIte, Nat.reduceEqDiff]))
    exact end_nil ⟨rfl, E0, rfl, rfl⟩
  · have e1 : (i : Int) < (roll l s).length := by omega
    have e0 : (0 : Int) ≤ i := by omega
    have hil : i < (roll l s).length := by omega
    have ew : IntKind.i64.wrap ((i : Int) + 1) = ((i + 1 : Nat) : Int) := by rw [wrap64 (by omega) (by omega)]; rfl
    obtain ⟨x, hx⟩ : ∃ x, (roll l s)[i]? = some x := ⟨_, List.getElem?_eq_getElem hil⟩
    obtain ⟨x1, x2, x3⟩ := roll_at T _ s hs (Nat.le_refl _) i x hx
    obtain ⟨ba, hba, pa⟩ : ∃ b, ra = some ⟨b, 0, none⟩ ∧ Ints (H ++ g) b ((roll l s).map fun (i : Nat) => (i : Int)) := by
      obtain ⟨_, _, e, k⟩ := hr'
      obtain ⟨b, e2, p⟩ := k (by intro e; rw [List.map_eq_nil_iff] at e; rw [e] at hil; simp at hil)
      cases e
      exact ⟨b, e2, p⟩
    subst hba
    have lx : ∀ e, loadS (H ++ (g ++ e)) none (.pointer (some ⟨ba, i, none⟩)) = some (.int .i64 (x : Int)) := fun e => by
      rw [← List.append_assoc]
      have hl : i < ((roll l s).map fun (i : Nat) => (i : Int)).length := by simpa using hil
      rw [(pa.app e).load hl]
      have := List.getElem?_eq_getElem hil
      rw [hx] at this
      simp only [List.getElem_map, Option.some.injEq] at this ⊢
      rw [← this]
    have lx0 := lx []
    rw [List.append_nil] at lx0
    have y1 : ¬ ((x : Int) < 0) := by omega
    have y2 : ¬ ((l.length : Int) ≤ x) := by omega
    have c28 := has28 (x : Int) ha' (by rw [List.length_map]; have := those_len l (tRest l); omega)
    rw [mem_those x1] at c28
    have wl : IntKind.i64.wrap (((roll l s).length : Int) - 1) = (((roll l s).length - 1 : Nat) : Int) := by rw [wrap64 (by omega) (by omega)]; omega
    have x2' : tRest l x = decide ((i : Int) = (((roll l s).length - 1 : Nat) : Int)) := by
      rw [x2]
      by_cases q : i + 1 = (roll l s).length
      · rw [decide_eq_true q, decide_eq_true (by omega)]
      · rw [decide_eq_false q, decide_eq_false (by omega)]
    have bb : ∀ b : Bool, eqS .bool (.bool b) (.bool b) = some true := fun b => by cases b <;> rfl
    rw [x2'] at c28
    by_cases hz : i = 0
    · have z0 : ((i : Int) = 0) = True := eq_true (by omega)
      repeat (first | apply run_seq | apply run_block | apply end_seq | apply end_blk_hit | apply end_blk_miss rfl | apply end_blk | apply end_seq_exit | apply end_seq_ret | apply end_blk_ret | apply run_skip | apply run_ret | apply run_exit | (apply run_region (by decide); (simp only [go_sem, ↓reduceIte, Int.reduceAdd, Int.reduceEq, Int.reduceLE, Int.reduceLT, Int.reduceMul, Int.reduceNeg, Int.reduceSub, Int.reduceToNat, Nat.reduceAdd, Nat.reduceBEq, Nat.reduceEqDiff, Nat.reduceLT, Nat.reduceLeDiff, Nat.reduceMul, Nat.reduceSub, h7, h8, h10, h12, h14, e0, e1, lx0, y1, y2, c28, wl, bb, z0, ew, List.length_map, Int.toNat_natCast]; rfl)) | (refine run_cond_t ?_ ?_; · simp only [go_sem, ↓reduceIte, Nat.reduceEqDiff]) | (refine run_cond_f ?_ ?_; · simp only [go_sem, ↓reduceIte, Nat.reduceEqDiff]))
      refine end_nil ⟨k - 1, by omega, i + 1, by omega, ?_, ?_, ?_, ?_, ?_, E0, rfl, rfl⟩
      · simp only [go_sem, ↓reduceIte, Int.reduceAdd, Int.reduceEq, Int.reduceLE, Int.reduceLT, Int.reduceMul, Int.reduceNeg, Int.reduceSub, Int.reduceToNat, Nat.reduceAdd, Nat.reduceBEq, Nat.reduceEqDiff, Nat.reduceLT, Nat.reduceLeDiff, Nat.reduceMul, Nat.reduceSub, h7]
      · simp only [go_sem, ↓reduceIte, Int.reduceAdd, Int.reduceEq, Int.reduceLE, Int.reduceLT, Int.reduceMul, Int.reduceNeg, Int.reduceSub, Int.reduceToNat, Nat.reduceAdd, Nat.reduceBEq, Nat.reduceEqDiff, Nat.reduceLT, Nat.reduceLeDiff, Nat.reduceMul, Nat.reduceSub, h8]
      · simp only [go_sem, ↓reduceIte, Int.reduceAdd, Int.reduceEq, Int.reduceLE, Int.reduceLT, Int.reduceMul, Int.reduceNeg, Int.reduceSub, Int.reduceToNat, Nat.reduceAdd, Nat.reduceBEq, Nat.reduceEqDiff, Nat.reduceLT, Nat.reduceLeDiff, Nat.reduceMul, Nat.reduceSub, h10]
      · simp only [go_sem, ↓reduceIte, Int.reduceAdd, Int.reduceEq, Int.reduceLE, Int.reduceLT, Int.reduceMul, Int.reduceNeg, Int.reduceSub, Int.reduceToNat, Nat.reduceAdd, Nat.reduceBEq, Nat.reduceEqDiff, Nat.reduceLT, Nat.reduceLeDiff, Nat.reduceMul, Nat.reduceSub, h12]
      · simp only [go_sem, ↓reduceIte, Int.reduceAdd, Int.reduceEq, Int.reduceLE, Int.reduceLT, Int.reduceMul, Int.reduceNeg, Int.reduceSub, Int.reduceToNat, Nat.reduceAdd, Nat.reduceBEq, Nat.reduceEqDiff, Nat.reduceLT, Nat.reduceLeDiff, Nat.reduceMul, Nat.reduceSub, ew]
    · have z0 : ¬ ((i : Int) = 0) := by omega
      have hjl : i - 1 < (roll l s).length := by omega
      obtain ⟨y, hy⟩ : ∃ y, (roll l s)[i - 1]? = some y := ⟨_, List.getElem?_eq_getElem hjl⟩
      obtain ⟨v1, v2, v3⟩ := roll_at T _ s hs (Nat.le_refl _) (i - 1) y hy
      have ex : x = nxt l y := v3 x (by rw [show i - 1 + 1 = i by omega]; exact hx)
      have yr : tRest l y = false := by rw [v2]; exact decide_eq_false (by omega)
      have hlt : lnLt l x y := by rw [ex]; exact nxt_falls T v1 yr
      have ly : ∀ e, loadS (H ++ (g ++ e)) none (.pointer (some ⟨ba, i - 1, none⟩)) = some (.int .i64 (y : Int)) := fun e => by
        rw [← List.append_assoc]
        have hl : i - 1 < ((roll l s).map fun (i : Nat) => (i : Int)).length := by simpa using hjl
        rw [(pa.app e).load hl]
        have := List.getElem?_eq_getElem hjl
        rw [hy] at this
        simp only [List.getElem_map, Option.some.injEq] at this ⊢
        rw [← this]
      have ly0 := ly []
      rw [List.append_nil] at ly0
      have wi : IntKind.i64.wrap ((i : Int) - 1) = ((i - 1 : Nat) : Int) := by rw [wrap64 (by omega) (by omega)]; omega
      have p1 : (0 : Int) ≤ ((i - 1 : Nat) : Int) := by omega
      have p2 : ((i - 1 : Nat) : Int) < (roll l s).length := by omega
      have c29y := lean29 hw' T v1
      have c29x := fun e => lean29 (hw'.app e) T x1
      have bx := lean_low T x1
      have bY := lean_low T v1
      have c30x := fun e => lean30 e bx.1 (by omega) bx.2.2.1 (by omega)
      have c30y := fun e => lean30 e bY.1 (by omega) bY.2.2.1 (by omega)
      have c31 := fun e => lessLn T x1 v1 e
      rw [decide_eq_true hlt] at c31
      simp only [List.append_assoc] at c29y c29x
      have wy : IntKind.i64.wrap ((y : Int) + 1) = ((y + 1 : Nat) : Int) := by rw [wrap64 (by omega) (by omega)]; rfl
      have wx : IntKind.i64.wrap ((x : Int) + 1) = ((x + 1 : Nat) : Int) := by rw [wrap64 (by omega) (by omega)]; rfl
      have ty : (((y + 1 : Nat) : Int)).tmod (l.length : Int) = (((y + 1) % l.length : Nat) : Int) := by rw [Int.tmod_eq_emod_of_nonneg (by omega)]; rfl
      have tx : (((x + 1 : Nat) : Int)).tmod (l.length : Int) = (((x + 1) % l.length : Nat) : Int) := by rw [Int.tmod_eq_emod_of_nonneg (by omega)]; rfl
      have hz0 : ¬ ((l.length : Int) = 0) := by omega
      have adj : x = (y + 1) % l.length ∨ (x ≠ (y + 1) % l.length ∧ y = (x + 1) % l.length) := by
        by_cases q : x = (y + 1) % l.length
        · exact .inl q
        · refine .inr ⟨q, ?_⟩
          have q2 : x = (y + l.length - 1) % l.length := by
            rw [ex] at q ⊢
            unfold nxt at q ⊢
            split at q
            · rename_i q3; rw [if_pos q3]
            · exact (q rfl).elim
          rw [q2, prev_succ v1]
      have E2 := E0.app [SO.cells [.int .i64 ((lnA l y).tdiv (lnG l y)), .int .i64 ((lnB l y).tdiv (lnG l y))] 34 true 0 [], .cells [.int .i64 ((lnA l x).tdiv (lnG l x)), .int .i64 ((lnB l x).tdiv (lnG l x))] 34 true 0 []]
      rw [List.append_assoc] at E2
      clear bx bY hx hy x2 x3 v2 v3 ex E0
      generalize (lnA l y).tdiv (lnG l y) = Ay at *
      generalize (lnB l y).tdiv (lnG l y) = By at *
      generalize (lnA l x).tdiv (lnG l x) = Ax at *
      generalize (lnB l x).tdiv (lnG l x) = Bx at *
      have la : ∀ e, loadS (H ++ (g ++ (SO.cells [.int .i64 Ay, .int .i64 By] 34 true 0 [] :: e))) (some 2) (.pointer (some ⟨H.length + g.length, 0, none⟩)) = some (.agg #[.int .i64 Ay, .int .i64 By]) := fun e => by
        rw [load_rdON, app_get, app_get0]; rfl
      rcases adj with q | ⟨q, q2⟩
      · have qq : (((y + 1) % l.length : Nat) : Int) = x := by omega
        repeat (first | apply run_seq | apply run_block | apply end_seq | apply end_blk_hit | apply end_blk_miss rfl | apply end_blk | apply end_seq_exit | apply end_seq_ret | apply end_blk_ret | apply run_skip | apply run_ret | apply run_exit | (apply run_region (by decide); (simp only [go_sem, ↓reduceIte, Int.reduceAdd, Int.reduceEq, Int.reduceLE, Int.reduceLT, Int.reduceMul, Int.reduceNeg, Int.reduceSub, Int.reduceToNat, Nat.reduceAdd, Nat.reduceBEq, Nat.reduceEqDiff, Nat.reduceLT, Nat.reduceLeDiff, Nat.reduceMul, Nat.reduceSub, h7, h8, h10, h12, h14, e0, e1, lx0, lx, ly0, ly, y1, y2, c28, wl, bb, z0, List.length_map, Int.toNat_natCast, wi, p1, p2, c29y, c29x, c30x, c30y, c31, la, wy, ty, hz0, qq]; rfl)) | (refine run_cond_t ?_ ?_; · simp only [go_sem, ↓reduceIte, Nat.reduceEqDiff]) | (refine run_cond_f ?_ ?_; · simp only [go_sem, ↓reduceIte, Nat.reduceEqDiff]))
        refine end_nil ⟨k - 1, by omega, i + 1, by omega, ?_, ?_, ?_, ?_, ?_, E2, rfl, rfl⟩
        · simp only [go_sem, ↓reduceIte, Int.reduceAdd, Int.reduceEq, Int.reduceLE, Int.reduceLT, Int.reduceMul, Int.reduceNeg, Int.reduceSub, Int.reduceToNat, Nat.reduceAdd, Nat.reduceBEq, Nat.reduceEqDiff, Nat.reduceLT, Nat.reduceLeDiff, Nat.reduceMul, Nat.reduceSub, h7]
        · simp only [go_sem, ↓reduceIte, Int.reduceAdd, Int.reduceEq, Int.reduceLE, Int.reduceLT, Int.reduceMul, Int.reduceNeg, Int.reduceSub, Int.reduceToNat, Nat.reduceAdd, Nat.reduceBEq, Nat.reduceEqDiff, Nat.reduceLT, Nat.reduceLeDiff, Nat.reduceMul, Nat.reduceSub, h8]
        · simp only [go_sem, ↓reduceIte, Int.reduceAdd, Int.reduceEq, Int.reduceLE, Int.reduceLT, Int.reduceMul, Int.reduceNeg, Int.reduceSub, Int.reduceToNat, Nat.reduceAdd, Nat.reduceBEq, Nat.reduceEqDiff, Nat.reduceLT, Nat.reduceLeDiff, Nat.reduceMul, Nat.reduceSub, h10]
        · simp only [go_sem, ↓reduceIte, Int.reduceAdd, Int.reduceEq, Int.reduceLE, Int.reduceLT, Int.reduceMul, Int.reduceNeg, Int.reduceSub, Int.reduceToNat, Nat.reduceAdd, Nat.reduceBEq, Nat.reduceEqDiff, Nat.reduceLT, Nat.reduceLeDiff, Nat.reduceMul, Nat.reduceSub, h12]
        · simp only [go_sem, ↓reduceIte, Int.reduceAdd, Int.reduceEq, Int.reduceLE, Int.reduceLT, Int.reduceMul, Int.reduceNeg, Int.reduceSub, Int.reduceToNat, Nat.reduceAdd, Nat.reduceBEq, Nat.reduceEqDiff, Nat.reduceLT, Nat.reduceLeDiff, Nat.reduceMul, Nat.reduceSub, ew]
      · have qq : ¬ ((x : Int) = (((y + 1) % l.length : Nat) : Int)) := by omega
        have qq2 : (((x + 1) % l.length : Nat) : Int) = y := by omega
        repeat (first | apply run_seq | apply run_block | apply end_seq | apply end_blk_hit | apply end_blk_miss rfl | apply end_blk | apply end_seq_exit | apply end_seq_ret | apply end_blk_ret | apply run_skip | apply run_ret | apply run_exit | (apply run_region (by decide); (simp only [go_sem, ↓reduceIte, Int.reduceAdd, Int.reduceEq, Int.reduceLE, Int.reduceLT, Int.reduceMul, Int.reduceNeg, Int.reduceSub, Int.reduceToNat, Nat.reduceAdd, Nat.reduceBEq, Nat.reduceEqDiff, Nat.reduceLT, Nat.reduceLeDiff, Nat.reduceMul, Nat.reduceSub, h7, h8, h10, h12, h14, e0, e1, lx0, lx, ly0, ly, y1, y2, c28, wl, bb, z0, List.length_map, Int.toNat_natCast, wi, p1, p2, c29y, c29x, c30x, c30y, c31, la, wy, ty, wx, tx, hz0, qq, qq2]; rfl)) | (refine run_cond_t ?_ ?_; · simp only [go_sem, ↓reduceIte, Nat.reduceEqDiff]) | (refine run_cond_f ?_ ?_; · simp only [go_sem, ↓reduceIte, Nat.reduceEqDiff]))
        refine end_nil ⟨k - 1, by omega, i + 1, by omega, ?_, ?_, ?_, ?_, ?_, E2, rfl, rfl⟩
        · simp only [go_sem, ↓reduceIte, Int.reduceAdd, Int.reduceEq, Int.reduceLE, Int.reduceLT, Int.reduceMul, Int.reduceNeg, Int.reduceSub, Int.reduceToNat, Nat.reduceAdd, Nat.reduceBEq, Nat.reduceEqDiff, Nat.reduceLT, Nat.reduceLeDiff, Nat.reduceMul, Nat.reduceSub, h7]
        · simp only [go_sem, ↓reduceIte, Int.reduceAdd, Int.reduceEq, Int.reduceLE, Int.reduceLT, Int.reduceMul, Int.reduceNeg, Int.reduceSub, Int.reduceToNat, Nat.reduceAdd, Nat.reduceBEq, Nat.reduceEqDiff, Nat.reduceLT, Nat.reduceLeDiff, Nat.reduceMul, Nat.reduceSub, h8]
        · simp only [go_sem, ↓reduceIte, Int.reduceAdd, Int.reduceEq, Int.reduceLE, Int.reduceLT, Int.reduceMul, Int.reduceNeg, Int.reduceSub, Int.reduceToNat, Nat.reduceAdd, Nat.reduceBEq, Nat.reduceEqDiff, Nat.reduceLT, Nat.reduceLeDiff, Nat.reduceMul, Nat.reduceSub, h10]
        · simp only [go_sem, ↓reduceIte, Int.reduceAdd, Int.reduceEq, Int.reduceLE, Int.reduceLT, Int.reduceMul, Int.reduceNeg, Int.reduceSub, Int.reduceToNat, Nat.reduceAdd, Nat.reduceBEq, Nat.reduceEqDiff, Nat.reduceLT, Nat.reduceLeDiff, Nat.reduceMul, Nat.reduceSub, h12]
        · simp only [go_sem, ↓reduceIte, Int.reduceAdd, Int.reduceEq, Int.reduceLE, Int.reduceLT, Int.reduceMul, Int.reduceNeg, Int.reduceSub, Int.reduceToNat, Nat.reduceAdd, Nat.reduceBEq, Nat.reduceEqDiff, Nat.reduceLT, Nat.reduceLeDiff, Nat.reduceMul, Nat.reduceSub, ew]

/-- the law of the falls -/
theorem law5 {h : SHeap} {v : Value} {l : List (Int × Int)} (hv : ArgS h v l) (z y : Int) : M.call 5 [v, .int .i64 z, .int .i64 y] h = some (.bool true, h, []) := by
  obtain ⟨T, c, tm, hc, c18⟩ := tame18 hv z
  have hlo := tm.lo
  have hhi := tm.hi
  obtain ⟨s, hs, es, es0⟩ := side_ok y (n := T.length) (by omega) (by omega)
  have hp : PS (h ++ [SO.cells (prs T) 53 true 0 []]) (.slice (some ⟨h.length, 0, none⟩) T.length c) T := ⟨_, _, rfl, fun _ => ⟨_, _, rfl, Prs.mk0 (by rw [app_get0]; rfl) rfl⟩⟩
  have hR1 := roll_len tm _ s hs (Nat.le_refl _)
  have hR2 := rank_le hs
  have hh := roll_head tm hs
  have hR3 : 0 < (roll T s).length := (List.getElem?_eq_some_iff.1 hh).1
  obtain ⟨u1, g1, c26, i1⟩ := roll26 hp tm hs
  have hp1 := hp.app g1
  obtain ⟨u2, g2, c27, i2⟩ := nums_ex (e := fun u => .tuple #[u, .int .i64 0]) (L := those T (tRest T)) (rests27 hp1 tm (tRest T) (fun _ => rfl))
  have i1' := i1.app g2
  have hp2 := hp1.app g2
  obtain ⟨s1, t1, rfl⟩ := i1.shape
  obtain ⟨s2, t2, rfl⟩ := i2.shape
  obtain ⟨ba, rfl, pa⟩ : ∃ b, s1 = some ⟨b, 0, none⟩ ∧ Ints (h ++ [SO.cells (prs T) 53 true 0 []] ++ g1 ++ g2) b ((roll T s).map fun (i : Nat) => (i : Int)) := by
    obtain ⟨_, _, e, k⟩ := i1'
    obtain ⟨b, e2, p⟩ := k (by intro e; rw [List.map_eq_nil_iff] at e; rw [e] at hR3; simp at hR3)
    cases e
    exact ⟨b, e2, p⟩
  have l0 : loadS (h ++ [SO.cells (prs T) 53 true 0 []] ++ g1 ++ g2) none (.pointer (some ⟨ba, 0, none⟩)) = some (.int .i64 (s : Int)) := by
    have hl : 0 < ((roll T s).map fun (i : Nat) => (i : Int)).length := by simpa using hR3
    rw [pa.load hl]
    have := List.getElem?_eq_getElem hR3
    rw [hh] at this
    simp only [List.getElem_map, Option.some.injEq] at this ⊢
    rw [← this]
  have q1 : ¬ (((roll T s).length : Int) < 1) := by omega
  have q2 : ¬ ((T.length : Int) < (roll T s).length) := by omega
  have q3 : (0 : Int) < (roll T s).length := by omega
  have fl := falls_loop ⟨h.length, none, 5⟩ hp2 tm hs i1' i2 (roll T s).length
  simp only [List.append_assoc, List.cons_append, List.nil_append, List.length_map] at c18 c26 c27 fl l0
  refine call_run sf5 rfl rfl rfl ?_
  unfold sf5
  repeat (first | apply run_seq | apply run_block | apply end_seq | apply end_blk_hit | apply end_blk_miss rfl | apply end_blk | apply end_seq_exit | apply end_seq_ret | apply end_blk_ret | apply run_skip | apply run_ret | apply run_exit | (apply run_region (by decide); (simp only [go_sem, ↓reduceIte, Int.reduceAdd, Int.reduceEq, Int.reduceLE, Int.reduceLT, Int.reduceMul, Int.reduceNeg, Int.reduceSub, Int.reduceToNat, Nat.reduceAdd, Nat.reduceBEq, Nat.reduceEqDiff, Nat.reduceLT, Nat.reduceLeDiff, Nat.reduceMul, Nat.reduceSub, argR, c18, es, es0, c26, c27, q1, q2, q3, l0]; rfl)) | (refine run_cond_t ?_ ?_; · simp only [go_sem, ↓reduceIte, Nat.reduceEqDiff]) | (refine run_cond_f ?_ ?_; · simp only [go_sem, ↓reduceIte, Nat.reduceEqDiff]))
  refine run_loop (fl _ _ _ _ ⟨0, by omega, by (simp only [go_sem, ↓reduceIte, Int.reduceAdd, Int.reduceEq, Int.reduceLE, Int.reduceLT, Int.reduceMul, Int.reduceNeg, Int.reduceSub, Int.reduceToNat, Nat.reduceAdd, Nat.reduceBEq, Nat.reduceEqDiff, Nat.reduceLT, Nat.reduceLeDiff, Nat.reduceMul, Nat.reduceSub]) <;> rfl, by (simp only [go_sem, ↓reduceIte, Int.reduceAdd, Int.reduceEq, Int.reduceLE, Int.reduceLT, Int.reduceMul, Int.reduceNeg, Int.reduceSub, Int.reduceToNat, Nat.reduceAdd, Nat.reduceBEq, Nat.reduceEqDiff, Nat.reduceLT, Nat.reduceLeDiff, Nat.reduceMul, Nat.reduceSub]) <;> rfl, by (simp only [go_sem, ↓reduceIte, Int.reduceAdd, Int.reduceEq, Int.reduceLE, Int.reduceLT, Int.reduceMul, Int.reduceNeg, Int.reduceSub, Int.reduceToNat, Nat.reduceAdd, Nat.reduceBEq, Nat.reduceEqDiff, Nat.reduceLT, Nat.reduceLeDiff, Nat.reduceMul, Nat.reduceSub]) <;> rfl, by (simp only [go_sem, ↓reduceIte, Int.reduceAdd, Int.reduceEq, Int.reduceLE, Int.reduceLT, Int.reduceMul, Int.reduceNeg, Int.reduceSub, Int.reduceToNat, Nat.reduceAdd, Nat.reduceBEq, Nat.reduceEqDiff, Nat.reduceLT, Nat.reduceLeDiff, Nat.reduceMul, Nat.reduceSub]) <;> rfl, by (simp only [go_sem, ↓reduceIte, Int.reduceAdd, Int.reduceEq, Int.reduceLE, Int.reduceLT, Int.reduceMul, Int.reduceNeg, Int.reduceSub, Int.reduceToNat, Nat.reduceAdd, Nat.reduceBEq, Nat.reduceEqDiff, Nat.reduceLT, Nat.reduceLeDiff, Nat.reduceMul, Nat.reduceSub]) <;> rfl, Ext.refl _, rfl, rfl⟩) ?_
  rintro ex ρ' ms' h1 d1 ⟨rfl, E, rfl, rfl⟩
  repeat (first | apply run_seq | apply run_block | apply end_seq | apply end_blk_hit | apply end_blk_miss rfl | apply end_blk | apply end_seq_exit | apply end_seq_ret | apply end_blk_ret | apply run_skip | apply run_ret | apply run_exit | (apply run_region (by decide); (simp only [go_sem, ↓reduceIte, Int.reduceAdd, Int.reduceEq, Int.reduceLE, Int.reduceLT, Int.reduceMul, Int.reduceNeg, Int.reduceSub, Int.reduceToNat, Nat.reduceAdd, Nat.reduceBEq, Nat.reduceEqDiff, Nat.reduceLT, Nat.reduceLeDiff, Nat.reduceMul, Nat.reduceSub, awake_call]; rfl)) | (refine run_cond_t ?_ ?_; · simp only [go_sem, ↓reduceIte, Nat.reduceEqDiff]) | (refine run_cond_f ?_ ?_; · simp only [go_sem, ↓reduceIte, Nat.reduceEqDiff]))
  refine end_nil (q_ret1 _ (by simp only [go_sem, ↓reduceIte, Int.reduceAdd, Int.reduceEq, Int.reduceLE, Int.reduceLT, Int.reduceMul, Int.reduceNeg, Int.reduceSub, Int.reduceToNat, Nat.reduceAdd, Nat.reduceBEq, Nat.reduceEqDiff, Nat.reduceLT, Nat.reduceLeDiff, Nat.reduceMul, Nat.reduceSub]) rfl ?_)
  obtain ⟨g, rfl⟩ := E
  rw [List.append_assoc]
  exact take_app _ _
end Go.Proofs.Ytecncmmkghmojaa.Sh

