/- Tips of the document; comparing numbers; the law of the rests. -/
import Derived.Test.YtecncmmkghmojaaXp
import Derived.Test.YtecncmmkghmojaaH5
set_option linter.all false
namespace Go.Proofs.Ytecncmmkghmojaa.Sh
open Go Geo
set_option maxRecDepth 100000

/-- Rests, Firm and Tips -/
theorem natV_sc (L : List Nat) : (natV L).all sc = true := by
  unfold natV
  exact mkI_sc _
theorem rests27 {h : SHeap} {v : Value} {l : List (Int × Int)} (hv : PS h v l) (T : Tame l) (test : Nat → Bool) (ht : ∀ i, test i = restB (mX l) (mY l) (mD l) (cn l i) (cn l ((i + 1) % l.length))) :
    M.call 27 [v] h = some (.tuple #[resV h ((List.range l.length).filter test).length 1, .int .i64 0], resH h (natV ((List.range l.length).filter test)) ((List.range l.length).filter test).length 3, []) := by
  have c69 := those69 hv T 70 71 test (fun h b hb => bound70 hb) (fun h b cb c i hb hi => by rw [ht i]; exact rests71 hb T.fine T.inr T.hi hi)
  have A := AccS.ofRes h 3 (cs := natV ((List.range l.length).filter test)) (n := ((List.range l.length).filter test).length) (s := 1) (by simp [natV]) (natV_sc _)
  obtain ⟨va, vc, rfl, -⟩ := hv
  generalize hu : resV h ((List.range l.length).filter test).length 1 = u at *
  refine call_run sf27 rfl rfl rfl ?_
  unfold sf27
  repeat (first | apply run_seq | apply run_block | apply end_seq | apply end_blk_hit | apply end_blk_miss rfl | apply end_blk | apply end_seq_exit | apply end_seq_ret | apply end_blk_ret | apply run_skip | apply run_ret | apply run_exit | (apply run_region (by decide); (simp only [go_sem, argR, c69]; rfl)) | (refine run_cond_t ?_ ?_; · simp only [go_sem]) | (refine run_cond_f ?_ ?_; · simp only [go_sem]))
  refine end_nil (A.at0.q2 (.int .i64 0) (by rw [hu]) rfl ?_ ?_ rfl)
  · simp only [go_sem]
  · simp only [go_sem]

theorem ints_loop (cx : Cx) {h : SHeap} {v w : Value} {a b : List Int} (hv : IS h v a) (hw : IS h w b) (hab : a.length = b.length) (hs : a.length < 4611686018427387904) : ∀ k ρ ms h' d', (∃ i : Nat, i + k = a.length ∧ ρ 0 = v ∧ ρ 1 = w ∧ ρ 5 = .int .i64 i ∧ a.take i = b.take i ∧ ms = [] ∧ h' = h ∧ d' = []) →
    LoopW M cx 5 sf39L0 ρ ms h' d' (fun ex ρ' ms' h' d' => ms' = [] ∧ h' = h ∧ d' = [] ∧ ((ex = .exit 0 ∧ a = b) ∨ (ex = .ret ∧ ρ' 4 = .bool false ∧ a ≠ b))) := by
  obtain ⟨va, ca, rfl, ka⟩ := hv
  obtain ⟨vb, cb, rfl, kb⟩ := hw
  refine loop_run _ ?_
  rintro k ρ ms h' d' ⟨i, hi, h0, h1, h5, he, rfl, rfl, rfl⟩
  unfold sf39L0
  by_cases hk : k = 0
  · have e1 : ¬ ((i : Int) < a.length) := by omega
    have ei : i = a.length := by omega
    repeat (first | apply run_seq | apply run_block | apply end_seq | apply end_blk_hit | apply end_blk_miss rfl | apply end_blk | apply end_seq_exit | apply end_seq_ret | apply end_blk_ret | apply run_skip | apply run_ret | apply run_exit | (apply run_region (by decide); (simp only [go_sem, h0, h1, h5, e1]; rfl)) | (refine run_cond_t ?_ ?_; · simp only [go_sem]) | (refine run_cond_f ?_ ?_; · simp only [go_sem]))
    refine end_nil ⟨rfl, rfl, rfl, .inl ⟨rfl, ?_⟩⟩
    rw [ei, List.take_length, hab, List.take_length] at he
    exact he
  · have e1 : (i : Int) < a.length := by omega
    have e3 : (i : Int) < b.length := by omega
    have e2 : (0 : Int) ≤ i := by omega
    have hia : i < a.length := by omega
    have hib : i < b.length := by omega
    have ew : IntKind.i64.wrap ((i : Int) + 1) = ((i + 1 : Nat) : Int) := by rw [wrap64 (by omega) (by omega)]; rfl
    obtain ⟨ba, rfl, pa⟩ := ka (by intro e; rw [e] at hia; simp at hia)
    obtain ⟨bb, rfl, pb⟩ := kb (by intro e; rw [e] at hib; simp at hib)
    have l1 := pa.load hia
    have l2 := pb.load hib
    have t1 : a.take (i + 1) = a.take i ++ [a[i]] := by rw [List.take_add_one, List.getElem?_eq_getElem hia]; rfl
    have t2 : b.take (i + 1) = b.take i ++ [b[i]] := by rw [List.take_add_one, List.getElem?_eq_getElem hib]; rfl
    have hne : a[i] ≠ b[i] → a ≠ b := fun h1 h2 => h1 (by subst h2; rfl)
    generalize a[i] = p at *
    generalize b[i] = q at *
    by_cases hpq : p = q
    · subst hpq
      repeat (first | apply run_seq | apply run_block | apply end_seq | apply end_blk_hit | apply end_blk_miss rfl | apply end_blk | apply end_seq_exit | apply end_seq_ret | apply end_blk_ret | apply run_skip | apply run_ret | apply run_exit | (apply run_region (by decide); (simp only [go_sem, h0, h1, h5, e1, e2, e3, l1, l2, ew, Int.toNat_natCast]; rfl)) | (refine run_cond_t ?_ ?_; · simp only [go_sem]) | (refine run_cond_f ?_ ?_; · simp only [go_sem]))
      refine end_nil ⟨k - 1, by omega, i + 1, by omega, ?_, ?_, ?_, by rw [t1, t2, he], rfl, rfl, rfl⟩
      · simp only [go_sem, h0]
      · simp only [go_sem, h1]
      · simp only [go_sem, ew]
    · repeat (first | apply run_seq | apply run_block | apply end_seq | apply end_blk_hit | apply end_blk_miss rfl | apply end_blk | apply end_seq_exit | apply end_seq_ret | apply end_blk_ret | apply run_skip | apply run_ret | apply run_exit | (apply run_region (by decide); (simp only [go_sem, h0, h1, h5, e1, e2, e3, l1, l2, hpq, ew, Int.toNat_natCast]; rfl)) | (refine run_cond_t ?_ ?_; · simp only [go_sem]) | (refine run_cond_f ?_ ?_; · simp only [go_sem]))
      refine end_nil ⟨rfl, rfl, rfl, .inr ⟨rfl, ?_, hne hpq⟩⟩
      simp only [go_sem]

/-- ints: are these slices of integers equal? -/
theorem ints39 {h : SHeap} {v w : Value} {a b : List Int} (hv : IS h v a) (hw : IS h w b) (hs : a.length < 4611686018427387904) : M.call 39 [v, w] h = some (.bool (decide (a = b)), h, []) := by
  have hv0 := hv
  have hw0 := hw
  obtain ⟨va, ca, rfl, ka⟩ := hv
  obtain ⟨vb, cb, rfl, kb⟩ := hw
  refine call_run sf39 rfl rfl rfl ?_
  unfold sf39
  by_cases hab : a.length = b.length
  · have e1 : ((a.length : Int) = b.length) := by omega
    repeat (first | apply run_seq | apply run_block | apply end_seq | apply end_blk_hit | apply end_blk_miss rfl | apply end_blk | apply end_seq_exit | apply end_seq_ret | apply end_blk_ret | apply run_skip | apply run_ret | apply run_exit | (apply run_region (by decide); (simp only [go_sem, argR, e1]; rfl)) | (refine run_cond_t ?_ ?_; · simp only [go_sem]) | (refine run_cond_f ?_ ?_; · simp only [go_sem]))
    refine run_loop (ints_loop _ hv0 hw0 hab hs a.length _ _ _ _ ⟨0, by omega, by simp only [go_sem, argR, e1], by simp only [go_sem, argR], by simp only [go_sem], by simp, rfl, rfl, rfl⟩) ?_
    rintro ex ρ' ms' h1 d1 ⟨rfl, rfl, rfl, ⟨rfl, he⟩ | ⟨rfl, h4, he⟩⟩
    · rw [decide_eq_true he]
      repeat (first | apply run_seq | apply run_block | apply end_seq | apply end_blk_hit | apply end_blk_miss rfl | apply end_blk | apply end_seq_exit | apply end_seq_ret | apply end_blk_ret | apply run_skip | apply run_ret | apply run_exit | (apply run_region (by decide); (simp only [go_sem]; rfl)) | (refine run_cond_t ?_ ?_; · simp only [go_sem]) | (refine run_cond_f ?_ ?_; · simp only [go_sem]))
      exact end_nil (q_ret1 _ (by simp only [go_sem]) rfl (take_self _))
    · rw [decide_eq_false he]
      repeat (first | apply run_seq | apply run_block | apply end_seq | apply end_blk_hit | apply end_blk_miss rfl | apply end_blk | apply end_seq_exit | apply end_seq_ret | apply end_blk_ret | apply run_skip | apply run_ret | apply run_exit | (apply run_region (by decide); (simp only [go_sem]; rfl)) | (refine run_cond_t ?_ ?_; · simp only [go_sem]) | (refine run_cond_f ?_ ?_; · simp only [go_sem]))
      exact end_nil (q_ret1 _ h4 rfl (take_self _))
  · have e1 : ¬ ((a.length : Int) = b.length) := by omega
    have he : a ≠ b := fun e => hab (by rw [e])
    rw [decide_eq_false he]
    repeat (first | apply run_seq | apply run_block | apply end_seq | apply end_blk_hit | apply end_blk_miss rfl | apply end_blk | apply end_seq_exit | apply end_seq_ret | apply end_blk_ret | apply run_skip | apply run_ret | apply run_exit | (apply run_region (by decide); (simp only [go_sem, argR, e1]; rfl)) | (refine run_cond_t ?_ ?_; · simp only [go_sem]) | (refine run_cond_f ?_ ?_; · simp only [go_sem]))
    exact end_nil (q_ret1 _ (by simp only [go_sem]) rfl (take_self _))

/-- a result of numbers, in any longer heap -/
theorem IS.ofRes (h g : SHeap) (L : List Nat) (el : TypeId) : IS (resH h (natV L) L.length el ++ g) (resV h L.length 1) (L.map fun (i : Nat) => (i : Int)) := by
  by_cases hn : L.length = 0
  · have : L = [] := by cases L <;> simp_all
    subst this
    exact ⟨none, 0, rfl, fun h => (h rfl).elim⟩
  · simp only [resH, resV, hn, if_false]
    refine ⟨_, _, by rw [List.length_map], fun _ => ⟨_, rfl, el, true, 0, [], ?_, rfl⟩⟩
    rw [List.append_assoc, app_get0]; rfl
theorem IS.app {h : SHeap} {v : Value} {l : List Int} (k : IS h v l) (g : SHeap) : IS (h ++ g) v l := by
  obtain ⟨a, c, rfl, k⟩ := k
  exact ⟨a, c, rfl, fun hn => let ⟨b, e, p⟩ := k hn; ⟨b, e, p.app g⟩⟩
theorem IS.shape {h : SHeap} {v : Value} {l : List Int} (k : IS h v l) : ∃ a c, v = .slice a l.length c := by
  obtain ⟨a, c, rfl, _⟩ := k; exact ⟨_, _, rfl⟩

/-- the three tests -/
def tRest (l : List (Int × Int)) (i : Nat) : Bool := restB (mX l) (mY l) (mD l) (cn l i) (cn l ((i + 1) % l.length))
def tFirm (l : List (Int × Int)) (i : Nat) : Bool := firmB (mX l) (mY l) (mD l) (cn l i) (cn l ((i + 1) % l.length))
def those (l : List (Int × Int)) (test : Nat → Bool) : List Nat := (List.range l.length).filter test
theorem those_len (l : List (Int × Int)) (test : Nat → Bool) : (those l test).length ≤ l.length := filter_le _ _

end Go.Proofs.Ytecncmmkghmojaa.Sh

