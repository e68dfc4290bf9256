/- pairs of the law's chapter, and the counts. -/
import Derived.Test.YtdmfhdnpakgkpaaDoorGh
set_option linter.all false
namespace Go.Proofs.YtdmfhdnpakgkpaaDoor.Sh
open Go
set_option maxRecDepth 100000

def cel (p : Int × Int) : SO := .cells [.int .i64 p.1, .int .i64 p.2] 53 true 0 []
theorem eqP (p q : Int × Int) : eqS (.agg [.int, .int]) (.agg #[.int .i64 p.1, .int .i64 p.2]) (.agg #[.int .i64 q.1, .int .i64 q.2]) = some (decide (p = q)) := by
  rw [eqS_aggr]
  show eqList [.int, .int] [.int .i64 p.1, .int .i64 p.2] [.int .i64 q.1, .int .i64 q.2] = _
  rw [eqL_cons, eqL_cons, eqL_nil]
  by_cases h1 : p.1 = q.1
  · by_cases h2 : p.2 = q.2
    · rw [if_pos h1, if_pos h2, decide_eq_true (Prod.ext h1 h2)]
    · rw [if_pos h1, if_neg h2, decide_eq_false (fun e => h2 (by rw [e]))]
  · rw [if_neg h1, decide_eq_false (fun e => h1 (by rw [e]))]

attribute [go_sem ↓ high] eqP

theorem PS.mk0 {h : SHeap} {b n c : Nat} {l : List (Int × Int)} {el : TypeId} (hb : h[b]? = some (.cells (prs l) el true 0 [])) (hn : n = l.length) : PS h (.slice (some ⟨b, 0, none⟩) n c) l :=
  ⟨_, _, by rw [hn], fun _ => ⟨_, _, rfl, Prs.mk0 hb rfl⟩⟩
theorem pairs_loop (cx : Cx) {h : SHeap} {v w : Value} {a b : List (Int × Int)} (hv : PS h v a) (hw : PS h w b) (hab : a.length = b.length) (hs : a.length < 4611686018427387904) : ∀ k ρ ms h' d', (∃ i : Nat, i + k = a.length ∧ ρ 0 = v ∧ ρ 1 = w ∧ ρ 5 = .int .i64 i ∧ a.take i = b.take i ∧ ms = [] ∧ h' = h ∧ d' = []) →
    LoopW M cx 5 sf19L0 ρ ms h' d' (fun ex ρ' ms' h' d' => ms' = [] ∧ h' = h ∧ d' = [] ∧ ((ex = .exit 0 ∧ a = b) ∨ (ex = .ret ∧ ρ' 4 = .bool false ∧ a ≠ b))) := by
  obtain ⟨va, ca, rfl, ka⟩ := hv
  obtain ⟨vb, cb, rfl, kb⟩ := hw
  refine loop_run _ ?_
  rintro k ρ ms h' d' ⟨i, hi, h0, h1, h5, he, rfl, rfl, rfl⟩
  unfold sf19L0
  by_cases hk : k = 0
  · have e1 : ¬ ((i : Int) < a.length) := by omega
    have ei : i = a.length := by omega
    repeat (first | apply run_seq | apply run_block | apply end_seq | apply end_blk_hit | apply end_blk_miss rfl | apply end_blk | apply end_seq_exit | apply end_seq_ret | apply end_blk_ret | apply run_skip | apply run_ret | apply run_exit | (apply run_region (by decide); (simp (maxSteps := 9999999) only [go_sem, h0, h1, h5, e1]; rfl)) | (apply run_regionN (by decide); (simp (maxSteps := 9999999) only [go_sem, h0, h1, h5, e1]; rfl)) | (refine run_cond_t ?_ ?_; · simp only [go_sem]) | (refine run_cond_f ?_ ?_; · simp only [go_sem]))
    refine end_nil ⟨rfl, rfl, rfl, .inl ⟨rfl, ?_⟩⟩
    rw [ei, List.take_length, hab, List.take_length] at he
    exact he
  · have e1 : (i : Int) < a.length := by omega
    have e3 : (i : Int) < b.length := by omega
    have e2 : (0 : Int) ≤ i := by omega
    have hia : i < a.length := by omega
    have hib : i < b.length := by omega
    have ew : IntKind.i64.wrap ((i : Int) + 1) = ((i + 1 : Nat) : Int) := by rw [wrap64 (by omega) (by omega)]; rfl
    obtain ⟨ba, oa, rfl, pa⟩ := ka (by intro e; rw [e] at hia; simp at hia)
    obtain ⟨bb, ob, rfl, pb⟩ := kb (by intro e; rw [e] at hib; simp at hib)
    have l1 := pa.loadN hia
    have l2 := pb.loadN hib
    have t1 : a.take (i + 1) = a.take i ++ [a[i]] := by rw [List.take_add_one, List.getElem?_eq_getElem hia]; rfl
    have t2 : b.take (i + 1) = b.take i ++ [b[i]] := by rw [List.take_add_one, List.getElem?_eq_getElem hib]; rfl
    have hne : a[i] ≠ b[i] → a ≠ b := fun h1 h2 => h1 (by subst h2; rfl)
    generalize a[i] = p at *
    generalize b[i] = q at *
    by_cases hpq : p = q
    · subst hpq
      repeat (first | apply run_seq | apply run_block | apply end_seq | apply end_blk_hit | apply end_blk_miss rfl | apply end_blk | apply end_seq_exit | apply end_seq_ret | apply end_blk_ret | apply run_skip | apply run_ret | apply run_exit | (apply run_region (by decide); (simp (maxSteps := 9999999) only [go_sem, h0, h1, h5, e1, e2, e3, l1, l2, ew, Int.toNat_natCast]; rfl)) | (apply run_regionN (by decide); (simp (maxSteps := 9999999) only [go_sem, h0, h1, h5, e1, e2, e3, l1, l2, ew, Int.toNat_natCast]; rfl)) | (refine run_cond_t ?_ ?_; · simp only [go_sem]) | (refine run_cond_f ?_ ?_; · simp only [go_sem]))
      refine end_nil ⟨k - 1, by omega, i + 1, by omega, ?_, ?_, ?_, by rw [t1, t2, he], rfl, rfl, rfl⟩
      · simp (maxSteps := 9999999) only [go_sem, h0]
      · simp (maxSteps := 9999999) only [go_sem, h1]
      · simp (maxSteps := 9999999) only [go_sem, ew]
    · repeat (first | apply run_seq | apply run_block | apply end_seq | apply end_blk_hit | apply end_blk_miss rfl | apply end_blk | apply end_seq_exit | apply end_seq_ret | apply end_blk_ret | apply run_skip | apply run_ret | apply run_exit | (apply run_region (by decide); (simp (maxSteps := 9999999) only [go_sem, h0, h1, h5, e1, e2, e3, l1, l2, hpq, ew, Int.toNat_natCast]; rfl)) | (apply run_regionN (by decide); (simp (maxSteps := 9999999) only [go_sem, h0, h1, h5, e1, e2, e3, l1, l2, hpq, ew, Int.toNat_natCast]; rfl)) | (refine run_cond_t ?_ ?_; · simp only [go_sem]) | (refine run_cond_f ?_ ?_; · simp only [go_sem]))
      refine end_nil ⟨rfl, rfl, rfl, .inr ⟨rfl, ?_, hne hpq⟩⟩
      simp (maxSteps := 9999999) only [go_sem]

/-- pairs: are these slices of pairs equal? -/
theorem pairs19 {h : SHeap} {v w : Value} {a b : List (Int × Int)} (hv : PS h v a) (hw : PS h w b) (hs : a.length < 4611686018427387904) : M.call 19 [v, w] h = some (.bool (decide (a = b)), h, []) := by
  have hv0 := hv
  have hw0 := hw
  obtain ⟨va, ca, rfl, ka⟩ := hv
  obtain ⟨vb, cb, rfl, kb⟩ := hw
  refine call_run sf19 rfl rfl rfl ?_
  unfold sf19
  by_cases hab : a.length = b.length
  · have e1 : ((a.length : Int) = b.length) := by omega
    repeat (first | apply run_seq | apply run_block | apply end_seq | apply end_blk_hit | apply end_blk_miss rfl | apply end_blk | apply end_seq_exit | apply end_seq_ret | apply end_blk_ret | apply run_skip | apply run_ret | apply run_exit | (apply run_region (by decide); (simp (maxSteps := 9999999) only [go_sem, argR, e1]; rfl)) | (apply run_regionN (by decide); (simp (maxSteps := 9999999) only [go_sem, argR, e1]; rfl)) | (refine run_cond_t ?_ ?_; · simp only [go_sem]) | (refine run_cond_f ?_ ?_; · simp only [go_sem]))
    refine run_loop (pairs_loop _ hv0 hw0 hab hs a.length _ _ _ _ ⟨0, by omega, by simp (maxSteps := 9999999) only [go_sem, argR, e1], by simp (maxSteps := 9999999) only [go_sem, argR], by simp (maxSteps := 9999999) only [go_sem], by simp, rfl, rfl, rfl⟩) ?_
    rintro ex ρ' ms' h1 d1 ⟨rfl, rfl, rfl, ⟨rfl, he⟩ | ⟨rfl, h4, he⟩⟩
    · rw [decide_eq_true he]
      repeat (first | apply run_seq | apply run_block | apply end_seq | apply end_blk_hit | apply end_blk_miss rfl | apply end_blk | apply end_seq_exit | apply end_seq_ret | apply end_blk_ret | apply run_skip | apply run_ret | apply run_exit | (apply run_region (by decide); (simp (maxSteps := 9999999) only [go_sem]; rfl)) | (apply run_regionN (by decide); (simp (maxSteps := 9999999) only [go_sem]; rfl)) | (refine run_cond_t ?_ ?_; · simp only [go_sem]) | (refine run_cond_f ?_ ?_; · simp only [go_sem]))
      exact end_nil (q_ret1 _ (by simp (maxSteps := 9999999) only [go_sem]) rfl (take_self _))
    · rw [decide_eq_false he]
      repeat (first | apply run_seq | apply run_block | apply end_seq | apply end_blk_hit | apply end_blk_miss rfl | apply end_blk | apply end_seq_exit | apply end_seq_ret | apply end_blk_ret | apply run_skip | apply run_ret | apply run_exit | (apply run_region (by decide); (simp (maxSteps := 9999999) only [go_sem]; rfl)) | (apply run_regionN (by decide); (simp (maxSteps := 9999999) only [go_sem]; rfl)) | (refine run_cond_t ?_ ?_; · simp only [go_sem]) | (refine run_cond_f ?_ ?_; · simp only [go_sem]))
      exact end_nil (q_ret1 _ h4 rfl (take_self _))
  · have e1 : ¬ ((a.length : Int) = b.length) := by omega
    have he : a ≠ b := fun e => hab (by rw [e])
    rw [decide_eq_false he]
    repeat (first | apply run_seq | apply run_block | apply end_seq | apply end_blk_hit | apply end_blk_miss rfl | apply end_blk | apply end_seq_exit | apply end_seq_ret | apply end_blk_ret | apply run_skip | apply run_ret | apply run_exit | (apply run_region (by decide); (simp (maxSteps := 9999999) only [go_sem, argR, e1]; rfl)) | (apply run_regionN (by decide); (simp (maxSteps := 9999999) only [go_sem, argR, e1]; rfl)) | (refine run_cond_t ?_ ?_; · simp only [go_sem]) | (refine run_cond_f ?_ ?_; · simp only [go_sem]))
    exact end_nil (q_ret1 _ (by simp (maxSteps := 9999999) only [go_sem]) rfl (take_self _))

end Go.Proofs.YtdmfhdnpakgkpaaDoor.Sh

